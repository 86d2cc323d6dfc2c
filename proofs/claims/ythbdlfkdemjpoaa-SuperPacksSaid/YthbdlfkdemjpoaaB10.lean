/- What Format does; the laws' known. No condition. -/
import Derived.Test.YthbdlfkdemjpoaaB9
namespace Go.Proofs.Ythbdlfkdemjpoaa
open Go.RowKit Go.Maps
attribute [local go_sem ↓] Go.wp_at_zero Go.wp_at_succ

def nilRows : Array Value := Array.replicate 16 (.slice none 0 0)
theorem make_rows (W : World) : (Instr.makeSlice 23 (.int .i64 16) (.int .i64 16)).run Try.prog W = .ok (.slice (some ⟨W.heap.size, 0, none⟩) 16 16) (W.alloc (.cells nilRows 22)) := by
  obtain ⟨i0, hi, z, hz1, hs, hby, hz2⟩ := infoBRow_parts
  have := run_make (P := Try.prog) W 23 22 i0 z Try.underlying23 hi hz1 .i64 .i64 16 16 (by omega) (by omega) (by rw [hby]; omega) (by omega)
  rw [hz2, hs] at this
  have e : madeCells #[Value.slice none 0 0] (Int.toNat 16 * 1) = nilRows := by
    apply Array.ext
    · simp [madeCells, nilRows]
    · intro j h1 h2
      simp [madeCells, nilRows, Nat.mod_one]
  rw [e] at this
  exact this
def nilL : List Row := List.replicate 16 []
theorem nilL_get (i : Nat) (hi : i < nilL.length) : nilL[i] = [] := List.getElem_replicate ..
theorem nilRows_m {w : World} {g : Nat} (h : w.heap[g]? = some (.cells nilRows 22 (0, 0))) {N : Nat → Prop} (hN : N g) : RowsM N w g 0 nilL := by
  refine ⟨⟨lt_of h, hN⟩, fun i hi => ?_⟩
  rw [nilL_get i hi]
  refine ⟨none, 0, ?_, .inl rfl, fun hn => absurd rfl hn⟩
  have hi' : i < 16 := by simpa [nilL] using hi
  rw [Nat.zero_add, cell_of h, nilRows, Array.getElem?_replicate, if_pos hi']
  rfl
def DS.formatL1 (D : DS) : DS × Int := D.layA (16 * 1) nilL
def DS.formatL2 (D : DS) (img : Row) : DS × Int := D.formatL1.1.layA (16 * 0) (packK 1 img 16)
def DS.formatE (D : DS) (img : Row) : Int := if ¬ 32 ≤ D.lasts.length then 1 else if 814 < img.length then 3 else if D.formatL1.2 ≠ 0 then D.formatL1.2 else (D.formatL2 img).2
def DS.formatD (D : DS) (img : Row) : DS := if ¬ 32 ≤ D.lasts.length then D else if 814 < img.length then D else if D.formatL1.2 ≠ 0 then D.formatL1.1 else (D.formatL2 img).1
def Formatted (B p : Nat) (w : World) (S : Nat → Prop) (D : DS) (X : SS) (r : Int) (e : Ending) (w' : World) : Prop :=
  ∃ S', Dk B w' p S' D ∧ Kept S w w' ∧ (∀ k, S' k → S k ∨ w.heap.size ≤ k) ∧ ((r ≠ 0 ∧ e = .returned (.tuple #[.pointer none, .int .i64 r])) ∨
    (r = 0 ∧ ∃ q A c, e = .returned (.tuple #[.pointer (some ⟨q, 0, none⟩), .int .i64 0]) ∧ w.heap.size ≤ q ∧ ¬ S' q ∧ SMem w' q p S' X A c))
set_option maxRecDepth 100000 in
set_option maxHeartbeats 2000000 in
theorem format_any {B : Nat} (p : Nat) (S : Nat → Prop) (D : DS) (A1 : Option Addr) (c1 : Nat) (img : Row) (w : World) (h : Dk B w p S D) (hi : Bytes w A1 img) (hfar : img ≠ [] → ∀ b o, A1 = some ⟨b, o, none⟩ → ¬ S b) (hl : img.length ≤ 140737488351232) (hroom : ∀ i, (D.waits i).length ≤ 800000) :
    Calls Try.prog 29 #[.pointer (some ⟨p, 0, none⟩), .slice A1 img.length c1] w (Formatted B p w S (D.formatD img) ⟨1, img, 0, 1, false⟩ (D.formatE img)) := by
  have H := Lib.hid h; have HI := Lib.hid hi; have HFAR := Lib.hid hfar; have HRM := Lib.hid hroom
  clear h hi hfar hroom
  by_cases hf : 32 ≤ D.lasts.length
  · have hfit := hide (fits_any p S D w H.out true (by simpa using hf))
    by_cases hb : 814 < img.length
    · have q1 : decide ((814 : Int) < (img.length : Int)) = true := decide_eq_true (by omega)
      have h1 : D.formatD img = D := by unfold DS.formatD; rw [if_neg (by omega), if_pos hb]
      have h2 : D.formatE img = 3 := by unfold DS.formatE; rw [if_neg (by omega), if_pos hb]
      have H1 := Lib.hid h1; have H2 := Lib.hid h2
      clear h1 h2 hf
      go_enter Try.func29, Try.ntmps29
      go_wp2_with fail
      refine (Hid.out hfit).mono ?_
      rintro e w' ⟨rfl, rfl⟩
      go_wp2_with fail
      go_ret2
      exact ⟨S, by rw [H1.out]; exact H.out, Kept.refl _ _, fun k hk => .inl hk, .inl ⟨by rw [H2.out]; omega, by rw [H2.out]; rfl⟩⟩
    · have q1 : decide ((814 : Int) < (img.length : Int)) = false := decide_eq_false (by omega)
      have h1 : D.formatD img = if D.formatL1.2 ≠ 0 then D.formatL1.1 else (D.formatL2 img).1 := by unfold DS.formatD; rw [if_neg (by omega), if_neg hb]
      have h2 : D.formatE img = if D.formatL1.2 ≠ 0 then D.formatL1.2 else (D.formatL2 img).2 := by unfold DS.formatE; rw [if_neg (by omega), if_neg hb]
      have H1 := Lib.hid h1; have H2 := Lib.hid h2
      clear h1 h2 hf
      have km := make_rows w
      go_enter Try.func29, Try.ntmps29
      go_wp2_with fail
      refine (Hid.out hfit).mono ?_
      rintro e w' ⟨rfl, rfl⟩
      go_wp2_with fail
      clear km
      have hl1 := lay_any p S D 1 w.heap.size 0 16 nilL (w.alloc (.cells nilRows 22)) (H.out.alloc _) (nilRows_m (heap_alloc_new w _) ⟨by simp, fun hs => by have := (H.out.base _ hs).2; omega⟩) (by omega) (by simp [nilL]) (fun i => Nat.le_trans (HRM.out i) (by omega))
      refine hl1.mono ?_
      rintro e w1 ⟨S1, rfl, hd1, hk1, hS1⟩
      have hkw : Kept S w w1 := (((Kept.refl S w).alloc _).trans hk1)
      have hSw : ∀ k, S1 k → S k ∨ w.heap.size ≤ k := fun k hk => (hS1 k hk).imp id fun h => by simp at h; omega
      have HD1 : Hid (Dk B w1 p S1 D.formatL1.1) := Lib.hid hd1; have HK1 := Lib.hid hkw; have HS1 := Lib.hid hSw
      clear hd1 hk1 hS1 hl1 hkw hSw
      obtain ⟨E1, hE1⟩ : ∃ E, E = D.formatL1.2 := ⟨_, rfl⟩
      have hE1' : (D.layA (16 * 1) nilL).2 = E1 := hE1.symm
      rw [hE1']
      clear hE1'
      have HE1 := Lib.hid hE1
      clear hE1
      by_cases he1 : E1 = 0
      · subst he1
        have hI1 : Bytes w1 A1 img := HI.out.fixN HK1.out.size fun hn b o e hl => HK1.out.block b hl (HFAR.out hn b o e)
        have hpk := pack_ok 1 A1 img c1 w1 hI1 (by omega) (by omega) (by omega)
        have HPK := hide hpk; have HI1 := Lib.hid hI1
        clear hpk hI1
        go_wp2_with fail
        refine (Hid.out HPK).mono ?_
        rintro e w2 ⟨v, gs, cs, rfl, hR, hb2⟩
        obtain ⟨g, cap, rfl, hRM⟩ := hR.toM (by rw [packK_length]; omega)
        have HRM2 : Hid (RowsM (fun k => k < w2.heap.size ∧ ¬ S1 k) w2 g 0 (packK 1 img 16)) := Lib.hid (hRM.mono fun k hk => ⟨hk.2, fun hs => absurd (HD1.out.base k hs).2 (Nat.not_lt.2 hk.1)⟩)
        have HB2 := Lib.hid hb2
        clear hR hb2 hRM
        have hw2 : ∀ i, (D.formatL1.1.waits i).length ≤ 900000 := fun i => by
          have := DS.layA_waits (b := 16 * 1) (ls := nilL) HRM.out i
          rw [show nilL.length = 16 from rfl] at this
          exact Nat.le_trans this (by omega)
        have HL2 := hide (lay_any p S1 D.formatL1.1 0 g 0 cap (packK 1 img 16) w2 (HD1.out.below HB2.out) HRM2.out (by omega) (by rw [packK_length]; omega) hw2)
        clear hw2
        go_wp2_with fail
        refine (Hid.out HL2).mono ?_
        rintro e w3 ⟨S3, rfl, hd3, hk3, hS3⟩
        have hkw : Kept S w w3 := HK1.out.trans' ((Kept.of_below (S := S1) HB2.out).trans hk3) fun i hi hs => (HS1.out i hs).elim id fun h => absurd hi (Nat.not_lt.2 h)
        have hSw : ∀ k, S3 k → S k ∨ w.heap.size ≤ k := fun k hk => (hS3 k hk).elim (HS1.out k) fun h => .inr (by have := HK1.out.size; have := HB2.out.size; omega)
        have HD3 : Hid (Dk B w3 p S3 (D.formatL2 img).1) := Lib.hid hd3; have HK3 := Lib.hid hkw; have HS3 := Lib.hid hSw
        clear hd3 hk3 hS3 hkw hSw HL2
        obtain ⟨E2, hE2⟩ : ∃ E, E = (D.formatL2 img).2 := ⟨_, rfl⟩
        have hE2' : (D.formatL1.1.layA (16 * 0) (packK 1 img 16)).2 = E2 := hE2.symm
        rw [hE2']
        have HE2 := Lib.hid hE2
        clear hE2 hE2'
        by_cases he2 : E2 = 0
        · subst he2
          have hI3 : Bytes w3 A1 img := HI.out.fixN HK3.out.size fun hn b o e hl => HK3.out.block b hl (HFAR.out hn b o e)
          have HCL := hide (clone_bytes A1 c1 img w3 hI3 (by omega))
          clear hI3
          go_wp2_with fail
          refine (Hid.out HCL).mono ?_
          rintro e w4 ⟨A', c', rfl, hf4, hb4⟩
          have HF4 := Lib.hid hf4; have HB4 := Lib.hid hb4
          clear hf4 hb4
          go_wp2_with fail
          go_ret2
          have hb5 : Below w3.heap.size w3 (w4.alloc (.cells #[.int .i64 1, .slice A' img.length c', .pointer (some ⟨p, 0, none⟩), .int .i64 0, .int .i64 1, .bool false] 102)) := HB4.out.alloc HB4.out.size _
          refine ⟨S3, ?_, HK3.out.trans' (Kept.of_below hb5) (fun i _ h => h), HS3.out, .inr ⟨?_, w4.heap.size, A', c', rfl, ?_, ?_, ?_, ?_, ?_⟩⟩
          · rw [H1.out, if_neg (by rw [← HE1.out]; simp)]
            exact HD3.out.below hb5
          · rw [H2.out, if_neg (by rw [← HE1.out]; simp)]
            exact HE2.out.symm
          · have := HK3.out.size; have := HB4.out.size; omega
          · intro hs; have := (HD3.out.base _ hs).2; have := HB4.out.size; omega
          · exact heap_alloc_new w4 _
          · exact HF4.out.bytes.below (below_alloc1 w4 _)
          · intro hn b o e
            have hb' := HF4.out.new hn b o e
            refine ⟨fun hs => by have := (HD3.out.base b hs).2; omega, ?_⟩
            rcases HF4.out.bytes with h | ⟨b', o', e', hbl, _⟩
            · exact absurd h hn
            · rw [e'] at e; cases e; omega
        · have q3 : (E2 != 0) = true := by simpa using he2
          have q3' : (E2 == 0) = false := by simpa using he2
          go_wp2_with fail
          go_ret2
          refine ⟨S3, ?_, HK3.out, HS3.out, .inl ⟨?_, ?_⟩⟩
          · rw [H1.out, if_neg (by rw [← HE1.out]; simp)]; exact HD3.out
          · rw [H2.out, if_neg (by rw [← HE1.out]; simp), ← HE2.out]; exact he2
          · rw [H2.out, if_neg (by rw [← HE1.out]; simp), ← HE2.out]; rfl
      · have q3 : (E1 != 0) = true := by simpa using he1
        have q3' : (E1 == 0) = false := by simpa using he1
        go_wp2_with fail
        go_ret2
        refine ⟨S1, ?_, HK1.out, HS1.out, .inl ⟨?_, ?_⟩⟩
        · rw [H1.out, if_pos (by rw [← HE1.out]; exact he1)]; exact HD1.out
        · rw [H2.out, if_pos (by rw [← HE1.out]; exact he1), ← HE1.out]; exact he1
        · rw [H2.out, if_pos (by rw [← HE1.out]; exact he1), ← HE1.out]; rfl
  · have hfit := hide (fits_any p S D w H.out false (by simpa using hf))
    have h1 : D.formatD img = D := by unfold DS.formatD; rw [if_pos hf]
    have h2 : D.formatE img = 1 := by unfold DS.formatE; rw [if_pos hf]
    have H1 := Lib.hid h1; have H2 := Lib.hid h2
    clear h1 h2 hf
    go_enter Try.func29, Try.ntmps29
    go_wp2_with fail
    refine (Hid.out hfit).mono ?_
    rintro e w' ⟨rfl, rfl⟩
    go_wp2_with fail
    go_ret2
    exact ⟨S, by rw [H1.out]; exact H.out, Kept.refl _ _, fun k hk => .inl hk, .inl ⟨by rw [H2.out]; omega, by rw [H2.out]; rfl⟩⟩
end Go.Proofs.Ythbdlfkdemjpoaa
