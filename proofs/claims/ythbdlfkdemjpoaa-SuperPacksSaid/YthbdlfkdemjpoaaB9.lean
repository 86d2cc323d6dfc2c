/- What Image, Number, Dead, Commit and Format do. No condition. -/
import Derived.Test.YthbdlfkdemjpoaaB8
namespace Go.Proofs.Ythbdlfkdemjpoaa
open Go.RowKit Go.Maps
attribute [local go_sem ↓] Go.wp_at_zero Go.wp_at_succ

/-! ### a nil Super -/
set_option maxHeartbeats 400000 in
theorem image_nil (w : World) : Calls Try.prog 27 #[.pointer none] w fun e w' => e = .returned (.slice none 0 0) ∧ w = w' := by
  go_enter Try.func27, Try.ntmps27
  go_wp2_with fail
  go_ret
  exact ⟨rfl, rfl⟩
set_option maxHeartbeats 400000 in
theorem number_nil (w : World) : Calls Try.prog 28 #[.pointer none] w fun e w' => e = .returned (.int .i64 0) ∧ w = w' := by
  go_enter Try.func28, Try.ntmps28
  go_wp2_with fail
  go_ret
  exact ⟨rfl, rfl⟩
set_option maxHeartbeats 400000 in
theorem dead_nil (w : World) : Calls Try.prog 32 #[.pointer none] w fun e w' => e = .returned (.bool true) ∧ w = w' := by
  go_enter Try.func32, Try.ntmps32
  go_wp2_with fail
  go_ret
  exact ⟨rfl, rfl⟩
set_option maxHeartbeats 400000 in
theorem commit_nil (v : Value) (w : World) : Calls Try.prog 30 #[.pointer none, v] w fun e w' => e = .returned (.int .i64 1) ∧ w = w' := by
  go_enter Try.func30, Try.ntmps30
  go_wp2_with fail
  go_ret
  exact ⟨rfl, rfl⟩
set_option maxHeartbeats 400000 in
theorem format_nil (v : Value) (w : World) : Calls Try.prog 29 #[.pointer none, v] w fun e w' => e = .returned (.tuple #[.pointer none, .int .i64 1]) ∧ w = w' := by
  go_enter Try.func29, Try.ntmps29
  go_wp2_with fail
  refine (fits_nil _).mono ?_
  rintro e w' ⟨rfl, rfl⟩
  go_wp2_with fail
  go_ret2
  exact ⟨rfl, rfl⟩

/-! ### Image, Number, Dead -/
set_option maxHeartbeats 1000000 in
theorem image_any (q p : Nat) (N : Nat → Prop) (X : SS) (A : Option Addr) (c : Nat) (w : World) (h : SMem w q p N X A c) (hl : X.img.length ≤ 814) : Calls Try.prog 27 #[.pointer (some ⟨q, 0, none⟩)] w (Cloned w X.img) := by
  have c1 := cell_of h.own 1
  simp only [SS.cells, List.getElem?_toArray, List.getElem?_cons_succ, List.getElem?_cons_zero] at c1
  have HC := hide (clone_bytes A c X.img w h.img (by omega))
  have key : Calls Try.prog 60 #[.pointer (some ⟨q, 0, none⟩)] w (Cloned w X.img) := by
    obtain ⟨img, himg⟩ : ∃ i, i = X.img := ⟨_, rfl⟩
    rw [← himg] at c1 HC ⊢
    clear h hl himg
    go_enter Try.func60, Try.ntmps60
    go_wp2_with fail
    refine (Hid.out HC).mono ?_
    rintro e w' ⟨A', c', rfl, hf, hb⟩
    have HF := Lib.hid hf; have HB := Lib.hid hb
    clear hf hb
    go_wp2_with fail
    go_ret
    exact ⟨A', c', rfl, HF.out, HB.out⟩
  have HK := hide key
  clear key HC c1 h hl
  go_enter Try.func27, Try.ntmps27
  go_wp2_with fail
  refine (Hid.out HK).mono ?_
  rintro e w' ⟨A', c', rfl, hf, hb⟩
  have HF := Lib.hid hf; have HB := Lib.hid hb
  clear hf hb
  go_wp2_with fail
  go_ret
  exact ⟨A', c', rfl, HF.out, HB.out⟩
set_option maxHeartbeats 1000000 in
theorem snumber_any (q p : Nat) (N : Nat → Prop) (X : SS) (A : Option Addr) (c : Nat) (w : World) (h : SMem w q p N X A c) : Calls Try.prog 28 #[.pointer (some ⟨q, 0, none⟩)] w fun e w' => e = .returned (.int .i64 X.num) ∧ w = w' := by
  have c4 := cell_of h.own 4
  simp only [SS.cells, List.getElem?_toArray, List.getElem?_cons_succ, List.getElem?_cons_zero] at c4
  clear h
  go_enter Try.func28, Try.ntmps28
  go_wp2_with fail
  go_ret
  exact ⟨rfl, rfl⟩
set_option maxHeartbeats 1000000 in
theorem dead_any (q p : Nat) (N : Nat → Prop) (X : SS) (A : Option Addr) (c : Nat) (w : World) (h : SMem w q p N X A c) : Calls Try.prog 32 #[.pointer (some ⟨q, 0, none⟩)] w fun e w' => e = .returned (.bool X.dead) ∧ w = w' := by
  have c5 := cell_of h.own 5
  simp only [SS.cells, List.getElem?_toArray, List.getElem?_cons_succ, List.getElem?_cons_zero] at c5
  clear h
  go_enter Try.func32, Try.ntmps32
  go_wp2_with fail
  go_ret
  exact ⟨rfl, rfl⟩

/-! ### Commit -/
def commitBad (X : SS) (img : Row) : Prop := 814 < img.length ∨ 1125899906842624 ≤ X.num
instance (X : SS) (img : Row) : Decidable (commitBad X img) := by unfold commitBad; infer_instance
def DS.commitL (D : DS) (X : SS) (img : Row) : DS × Int := D.layA (16 * (1 - X.at_)) (packK (X.num + 1) img 16)
def DS.commitE (D : DS) (X : SS) (img : Row) : Int := if X.dead = true then 6 else if commitBad X img then 3 else (D.commitL X img).2
def DS.commitD (D : DS) (X : SS) (img : Row) : DS := if X.dead = true then D else if commitBad X img then D else (D.commitL X img).1
def DS.commitX (D : DS) (X : SS) (img : Row) : SS := if X.dead = true then X else if commitBad X img then X else if (D.commitL X img).2 = 0 then ⟨X.num + 1, img, 1 - X.at_, X.num + 1, false⟩ else { X with dead := true }
def Committed (B q p : Nat) (w : World) (S : Nat → Prop) (D : DS) (X : SS) (r : Int) (e : Ending) (w' : World) : Prop :=
  ∃ S' A c, e = .returned (.int .i64 r) ∧ Dk B w' p S' D ∧ SMem w' q p S' X A c ∧ Kept (fun k => S k ∨ k = q) w w' ∧ (∀ k, S' k → S k ∨ w.heap.size ≤ k)
theorem DS.commitX_ok {D : DS} {X : SS} {img : Row} (h : X.Ok) : (D.commitX X img).Ok := by
  unfold DS.commitX
  split
  · exact h
  · split
    · exact h
    · rename_i hb
      unfold commitBad at hb
      split
      · exact ⟨by show X.num + 1 ≤ _; omega, by show img.length ≤ _; omega, by show 1 - X.at_ ≤ 1; omega, by show X.num + 1 ≤ _; omega⟩
      · exact ⟨h.snum, h.img, h.at_, h.num⟩
theorem SMem.laid {w w' : World} {q p : Nat} {S S3 : Nat → Prop} {X : SS} {A : Option Addr} {c : Nat} (h : SMem w q p S X A c) (hk : Kept S w w') (hq : ¬ S q) (hS3 : ∀ k, S3 k → S k ∨ w.heap.size ≤ k) : SMem w' q p S3 X A c := by
  have h1 : SMem w q p (fun k => S k ∨ S3 k) X A c := h.mono fun k hk hs => hs.elim id fun h3 => (hS3 k h3).elim id fun h4 => absurd hk (Nat.not_lt.2 h4)
  exact (h1.kept hk (fun k hs => .inl hs) hq).mono fun k _ hs => .inr hs
set_option maxRecDepth 100000 in
set_option maxHeartbeats 2000000 in
theorem commit_any {B : Nat} (q p : Nat) (S : Nat → Prop) (D : DS) (X : SS) (A A1 : Option Addr) (c c1 : Nat) (img : Row) (w : World) (h : Dk B w p S D) (hm : SMem w q p S X A c) (hq : ¬ S q) (hok : X.Ok) (hi : Bytes w A1 img) (hfar : img ≠ [] → ∀ b o, A1 = some ⟨b, o, none⟩ → ¬ S b ∧ b ≠ q) (hl : img.length ≤ 140737488351232) (hroom : ∀ i, (D.waits i).length ≤ 900000) :
    Calls Try.prog 30 #[.pointer (some ⟨q, 0, none⟩), .slice A1 img.length c1] w (Committed B q p w S (D.commitD X img) (D.commitX X img) (D.commitE X img)) := by
  have d1 := cell_of hm.own 2
  have d3 := cell_of hm.own 3
  have d4 := cell_of hm.own 4
  have d5 := cell_of hm.own 5
  simp only [SS.cells, List.getElem?_toArray, List.getElem?_cons_succ, List.getElem?_cons_zero] at d1 d3 d4 d5
  have H := Lib.hid h; have HM := Lib.hid hm; have HQ := Lib.hid hq; have HOK := Lib.hid hok; have HI := Lib.hid hi; have HFAR := Lib.hid hfar; have HRM := Lib.hid hroom
  obtain ⟨at_, hat⟩ : ∃ a, a = X.at_ := ⟨_, rfl⟩
  obtain ⟨nm, hnm⟩ : ∃ a, a = X.num := ⟨_, rfl⟩
  obtain ⟨dd, hdd⟩ : ∃ a, a = X.dead := ⟨_, rfl⟩
  rw [← hat] at d3
  rw [← hnm] at d4
  rw [← hdd] at d5
  have hal : at_ ≤ 1 := by rw [hat]; exact hok.at_
  have hnl : nm ≤ 1125899906842624 := by rw [hnm]; exact hok.num
  have HAT := Lib.hid hat; have HNM := Lib.hid hnm; have HDD := Lib.hid hdd
  clear h hm hq hok hi hfar hroom hat hnm hdd
  cases dd with
  | true =>
    have h1 : D.commitD X img = D := by unfold DS.commitD; rw [if_pos HDD.out.symm]
    have h2 : D.commitX X img = X := by unfold DS.commitX; rw [if_pos HDD.out.symm]
    have h3 : D.commitE X img = 6 := by unfold DS.commitE; rw [if_pos HDD.out.symm]
    rw [h1, h2, h3]
    clear h1 h2 h3
    go_enter Try.func30, Try.ntmps30
    go_wp2_with fail
    go_ret
    exact ⟨S, A, c, rfl, H.out, HM.out, Kept.refl _ _, fun k hk => .inl hk⟩
  | false =>
    by_cases hb : commitBad X img
    · have hnd : ¬ X.dead = true := by rw [← HDD.out]; simp
      have h1 : D.commitD X img = D := by unfold DS.commitD; rw [if_neg hnd, if_pos hb]
      have h2 : D.commitX X img = X := by unfold DS.commitX; rw [if_neg hnd, if_pos hb]
      have h3 : D.commitE X img = 3 := by unfold DS.commitE; rw [if_neg hnd, if_pos hb]
      rw [h1, h2, h3]
      unfold commitBad at hb
      rw [← HNM.out] at hb
      clear h1 h2 h3 hnd
      by_cases hb1 : 814 < img.length
      · have q1 : decide ((814 : Int) < (img.length : Int)) = true := decide_eq_true (by omega)
        clear hb
        go_enter Try.func30, Try.ntmps30
        go_wp2_with fail
        go_ret
        exact ⟨S, A, c, rfl, H.out, HM.out, Kept.refl _ _, fun k hk => .inl hk⟩
      · have q1 : decide ((814 : Int) < (img.length : Int)) = false := decide_eq_false (by omega)
        have q2 : decide ((1125899906842624 : Int) ≤ (nm : Int)) = true := decide_eq_true (by omega)
        clear hb
        go_enter Try.func30, Try.ntmps30
        go_wp2_with fail
        go_ret
        exact ⟨S, A, c, rfl, H.out, HM.out, Kept.refl _ _, fun k hk => .inl hk⟩
    · have hnd : ¬ X.dead = true := by rw [← HDD.out]; simp
      have h1 : D.commitD X img = (D.commitL X img).1 := by unfold DS.commitD; rw [if_neg hnd, if_neg hb]
      have h2 : D.commitX X img = if (D.commitL X img).2 = 0 then ⟨X.num + 1, img, 1 - X.at_, X.num + 1, false⟩ else { X with dead := true } := by unfold DS.commitX; rw [if_neg hnd, if_neg hb]
      have h3 : D.commitE X img = (D.commitL X img).2 := by unfold DS.commitE; rw [if_neg hnd, if_neg hb]
      rw [h1, h3]
      have HX2 := Lib.hid h2
      unfold commitBad at hb
      rw [← HNM.out] at hb
      have hb1 : img.length ≤ 814 := by omega
      have hb2 : nm < 1125899906842624 := by omega
      clear h1 h2 h3 hnd hb
      have q1 : decide ((814 : Int) < (img.length : Int)) = false := decide_eq_false (by omega)
      have q2 : decide ((1125899906842624 : Int) ≤ (nm : Int)) = false := decide_eq_false (by omega)
      have kw1 : IntKind.i64.wrap ((nm : Int) + 1) = (nm : Int) + 1 := IntWalk.i64_in _ (by omega)
      have kw2 : IntKind.i64.wrap (1 - (at_ : Int)) = 1 - (at_ : Int) := IntWalk.i64_in _ (by omega)
      have hn1 : (nm : Int) + 1 = ((nm + 1 : Nat) : Int) := by omega
      have hn2 : 1 - (at_ : Int) = ((1 - at_ : Nat) : Int) := by omega
      have HN1 := Lib.hid hn1; have HN2 := Lib.hid hn2
      clear hn1 hn2
      go_enter Try.func30, Try.ntmps30
      go_wp2_with fail
      go_quiet (fail)
      go_wp2_with fail
      have hbq := below_drewN (Below.refl w.heap.size w) nq
      have hD0 := H.out.below hbq
      have hM0 := HM.out.below hbq
      have hI0 := HI.out.below hbq
      obtain ⟨w0, hw0⟩ : ∃ w0, w0 = w.drewN nq := ⟨_, rfl⟩
      have hs0 : w0.heap.size = w.heap.size := by rw [hw0]; rfl
      have hk0 : Kept (fun k => S k ∨ k = q) w w0 := by rw [hw0]; exact (Kept.refl _ _).drewN nq
      rw [← hw0] at hD0 hM0 hI0
      rw [← hw0, HN1.out, HN2.out]
      have d2' : w0.cell? ⟨q, 2, none⟩ = some (.pointer (some ⟨p, 0, none⟩)) := by rw [cell_of hM0.own 2]; rfl
      have HD0 := Lib.hid hD0; have HM0 := Lib.hid hM0; have HI0 := Lib.hid hI0; have HK0 := Lib.hid hk0; have HS0 := Lib.hid hs0
      clear hD0 hM0 hI0 hw0 hbq kw1 kw2 d1 d3 d4 d5 hs0 hk0
      have HQB : Hid (∀ W : World, W.heap[q]? = w0.heap[q]? → W.cell? ⟨q, 2, none⟩ = some (.pointer (some ⟨p, 0, none⟩))) := Lib.hid fun W hW => by rw [cell_of (hW.trans HM0.out.own)]; rfl
      have hql : q < w0.heap.size := lt_of HM0.out.own
      go_region_held3 (fun w' => w'.cell? ⟨q, 2, none⟩ = some (.pointer (some ⟨p, 0, none⟩)))
        (first | exact HQB.out _ rfl | exact HQB.out _ (HB2.out.block q hql) | exact HQB.out _ ((HK3.out.block q (Nat.lt_of_lt_of_le hql HB2.out.size) HQ.out).trans (HB2.out.block q hql)))
        (first
          | (go_at_call 18; refine (pack_ok (nm + 1) A1 img c1 _ (HI0.out.below (Below.refl _ _).drew) (by omega) (by omega) hb1).mono ?_; rintro e w2 ⟨v, gs, cs, rfl, hR, hb⟩; obtain ⟨g, cap, rfl, hRM⟩ := hR.toM (by rw [packK_length]; omega); have HB2 : Hid (Below w0.heap.size w0 w2) := Lib.hid ((Below.refl _ _).drew.trans hb); have HRM2 : Hid (RowsM (fun k => k < w2.heap.size ∧ ¬ S k) w2 g 0 (packK (nm + 1) img 16)) := Lib.hid (hRM.mono fun k hk => ⟨hk.2, fun hs => absurd (HD0.out.base k hs).2 (Nat.not_lt.2 hk.1)⟩); clear hR hb hRM)
          | (go_at_call 61; refine (lay_any p S D (1 - at_) g 0 cap (packK (nm + 1) img 16) w2 (HD0.out.below HB2.out) HRM2.out (by omega) (by rw [packK_length]; omega) HRM.out).mono ?_; rintro e w3 ⟨S3, rfl, hd3, hk3, hS3⟩; have HD3 := Lib.hid hd3; have HK3 := Lib.hid hk3; have HS3 := Lib.hid hS3; clear hd3 hk3 hS3))
      have hcl : D.layA (16 * (1 - at_)) (packK (nm + 1) img 16) = D.commitL X img := by rw [HAT.out, HNM.out]; rfl
      rw [hcl] at HD3
      obtain ⟨E, hE⟩ : ∃ E, E = (D.commitL X img).2 := ⟨_, rfl⟩
      rw [hcl, ← hE]
      rw [← hE] at HX2
      have HEE := Lib.hid hE
      have hKW : Kept (fun k => S k ∨ k = q) w w3 := (HK0.out.trans' (Kept.of_below HB2.out) (fun i _ h => h)).trans' HK3.out (fun i _ h => .inl h)
      have hM3 : SMem w3 q p S3 X A c := (HM0.out.below HB2.out).laid HK3.out HQ.out HS3.out
      have hSS : ∀ k, S3 k → S k ∨ w.heap.size ≤ k := fun k hk => (HS3.out k hk).imp id fun h => by have := HB2.out.size; rw [HS0.out] at this; omega
      have HKW := Lib.hid hKW; have HM3 := Lib.hid hM3; have HSS := Lib.hid hSS
      clear hcl hE hKW hM3 hSS d2'
      by_cases hE0 : E = 0
      · subst hE0
        have HX3 : Hid (D.commitX X img = ⟨X.num + 1, img, 1 - X.at_, X.num + 1, false⟩) := Lib.hid (by rw [HX2.out, if_pos rfl])
        have hI3 : Bytes w3 A1 img := (HI0.out.below HB2.out).fixN HK3.out.size fun hn b o e hl => HK3.out.block b hl (HFAR.out hn b o e).1
        have hcl := clone_bytes A1 c1 img w3 hI3 (by omega)
        have HCL := hide hcl
        clear hI3 hcl
        go_wp2_with fail
        refine (Hid.out HCL).mono ?_
        rintro e w4 ⟨A', c', rfl, hf, hb4⟩
        have hM4 := HM3.out.below hb4
        have e0 := cell_of hM4.own 0
        have e1 := cell_of hM4.own 1
        have e3 := cell_of hM4.own 3
        have e4 := cell_of hM4.own 4
        have f0 := frozen_of hM4.own 0
        have f1 := frozen_of hM4.own 1
        have f3 := frozen_of hM4.own 3
        have f4 := frozen_of hM4.own 4
        simp only [SS.cells, List.getElem?_toArray, List.getElem?_cons_succ, List.getElem?_cons_zero] at e0 e1 e3 e4
        have hql3 : q < w3.heap.size := lt_of HM3.out.own
        have HM4 := Lib.hid hM4; have HF := Lib.hid hf; have HB4 := Lib.hid hb4
        clear hM4 hf hb4
        go_wp2_with fail
        go_ret
        have hfar : img ≠ [] → ∀ b o, A' = some ⟨b, o, none⟩ → ¬ S3 b ∧ b ≠ q := fun hn b o e => by
          have := HF.out.new hn b o e
          exact ⟨fun hs => by have := (HD3.out.base b hs).2; omega, by omega⟩
        have hs := (HM4.out.setSlot (n := nm + 1) (k := 1 - at_) (c' := c') HF.out.bytes hfar).setNum (nm + 1) ((nm + 1 : Nat) : Int) rfl
        have hnq : ¬ S3 q := fun hs => (HS3.out q hs).elim HQ.out (fun h => by have := HB2.out.size; have := HK0.out.size; have := lt_of HM0.out.own; omega)
        refine ⟨S3, A', c', by rw [← HEE.out]; rfl, ?_, ?_, ?_, HSS.out⟩
        · exact (((((HD3.out.below HB4.out).setCell ⟨q, 0, none⟩ _ hnq).setCell ⟨q, 1, none⟩ _ hnq).setCell ⟨q, 3, none⟩ _ hnq).setCell ⟨q, 4, none⟩ _ hnq)
        · rw [HX3.out]
          have e : ({ ({ X with snum := nm + 1, img := img, at_ := 1 - at_ } : SS) with num := nm + 1 } : SS) = ⟨X.num + 1, img, 1 - X.at_, X.num + 1, false⟩ := by
            rw [HNM.out, HAT.out]
            simp only [SS.mk.injEq, true_and]
            exact HDD.out.symm
          rw [e] at hs
          simpa using hs
        · have hk4 : Kept (fun k => S k ∨ k = q) w w4 := HKW.out.trans' (Kept.of_below HB4.out) (fun i _ h => h)
          exact (((hk4.setCell _ _ (fun _ => .inr rfl)).setCell _ _ (fun _ => .inr rfl)).setCell _ _ (fun _ => .inr rfl)).setCell _ _ (fun _ => .inr rfl)
      · have q3 : (E != 0) = true := by simpa using hE0
        have q3' : (E == 0) = false := by simpa using hE0
        have HX3 : Hid (D.commitX X img = { X with dead := true }) := Lib.hid (by rw [HX2.out, if_neg hE0])
        have e5 := cell_of HM3.out.own 5
        have f5 := frozen_of HM3.out.own 5
        simp only [SS.cells, List.getElem?_toArray, List.getElem?_cons_succ, List.getElem?_cons_zero] at e5
        go_wp2_with fail
        go_ret
        have hnq : ¬ S3 q := fun hs => (HS3.out q hs).elim HQ.out (fun h => by have := HB2.out.size; have := HK0.out.size; have := lt_of HM0.out.own; omega)
        refine ⟨S3, A, c, by rw [← HEE.out]; rfl, HD3.out.setCell _ _ hnq, ?_, HKW.out.setCell _ _ (fun _ => .inr rfl), HSS.out⟩
        rw [HX3.out]
        exact HM3.out.setDead
end Go.Proofs.Ythbdlfkdemjpoaa
