/- What super's fits and lay do. No condition. -/
import Derived.Test.YthbdlfkdemjpoaaB4
import Derived.Test.YthbdlfkdemjpoaaS11
namespace Go.Proofs.Ythbdlfkdemjpoaa
open Go.RowKit Go.Maps

set_option maxHeartbeats 400000 in
theorem fits_nil (w : World) : Calls Try.prog 55 #[.pointer none] w fun e w' => e = .returned (.bool false) ∧ w = w' := by
  go_enter Try.func55, Try.ntmps55
  go_wp2_with fail
  refine (len_nil _).mono ?_
  rintro e w' ⟨rfl, rfl⟩
  go_wp2_with fail
  go_ret
  exact ⟨rfl, rfl⟩
set_option maxHeartbeats 400000 in
theorem fits_any {B : Nat} (p : Nat) (S : Nat → Prop) (D : DS) (w : World) (h : Dk B w p S D) (f : Bool) (hf : f = decide (32 ≤ D.lasts.length)) : Calls Try.prog 55 #[.pointer (some ⟨p, 0, none⟩)] w fun e w' => e = .returned (.bool f) ∧ w = w' := by
  have HL := Lib.hid (len_any p S D w h.at_)
  obtain ⟨n, hn⟩ : ∃ n, n = D.lasts.length := ⟨_, rfl⟩
  rw [← hn] at HL hf
  clear h hn
  cases f with
  | true =>
    have q : decide ((32 : Int) ≤ (n : Int)) = true := decide_eq_true (by have := of_decide_eq_true hf.symm; omega)
    clear hf
    go_enter Try.func55, Try.ntmps55
    go_wp2_with fail
    refine HL.out.mono ?_
    rintro e w' ⟨rfl, rfl⟩
    go_wp2_with fail
    go_ret
    exact ⟨rfl, rfl⟩
  | false =>
    have q : decide ((32 : Int) ≤ (n : Int)) = false := decide_eq_false (by have := of_decide_eq_false hf.symm; omega)
    clear hf
    go_enter Try.func55, Try.ntmps55
    go_wp2_with fail
    refine HL.out.mono ?_
    rintro e w' ⟨rfl, rfl⟩
    go_wp2_with fail
    go_ret
    exact ⟨rfl, rfl⟩

/-- Rows of bytes that lie from a block's cell on; N: the blocks in which they may lie. -/
structure RowsM (N : Nat → Prop) (w : World) (b o : Nat) (ls : List Row) : Prop where
  blk : b < w.heap.size ∧ N b
  row : ∀ i (hi : i < ls.length), ∃ A c, w.cell? ⟨b, o + i, none⟩ = some (.slice A ls[i].length c) ∧ Bytes w A ls[i] ∧ (ls[i] ≠ [] → ∀ b' o', A = some ⟨b', o', none⟩ → N b')
theorem RowsM.kept {N S : Nat → Prop} {w w' : World} {b o : Nat} {ls : List Row} (h : RowsM N w b o ls) (hk : Kept S w w') (hN : ∀ k, N k → ¬ S k) : RowsM N w' b o ls := by
  refine ⟨⟨Nat.lt_of_lt_of_le h.blk.1 hk.size, h.blk.2⟩, fun i hi => ?_⟩
  obtain ⟨A, c, h1, h2, h3⟩ := h.row i hi
  exact ⟨A, c, (World.cell?_of_block (hk.block b h.blk.1 (hN b h.blk.2))).trans h1, h2.fixN hk.size (fun hn b' o' e hl => hk.block b' hl (hN b' (h3 hn b' o' e))), h3⟩
theorem RowsM.mono {N N' : Nat → Prop} {w : World} {b o : Nat} {ls : List Row} (h : RowsM N w b o ls) (hN : ∀ k, N k → N' k) : RowsM N' w b o ls :=
  ⟨⟨h.blk.1, hN _ h.blk.2⟩, fun i hi => by obtain ⟨A, c, h1, h2, h3⟩ := h.row i hi; exact ⟨A, c, h1, h2, fun hn b' o' e => hN _ (h3 hn b' o' e)⟩⟩
theorem Rows.toM {B : Nat} {w : World} {v : Value} {ls : List Row} {gs cs : Nat → Nat} (h : Rows B w v ls gs cs) (h0 : 0 < ls.length) : ∃ g cap, v = .slice (some ⟨g, 0, none⟩) ls.length cap ∧ RowsM (fun k => B ≤ k ∧ k < w.heap.size) w g 0 ls := by
  obtain ⟨g, cap, h1, h2, h3, h4⟩ := h.get h0
  refine ⟨g, cap, h1, ⟨⟨h3, h2, h3⟩, fun i hi => ?_⟩⟩
  obtain ⟨a1, a2, a3⟩ := h.each i hi
  have e : ls.getD i [] = ls[i] := by simp [List.getD_eq_getElem?_getD, hi]
  rw [e] at a1
  refine ⟨some ⟨gs i, 0, none⟩, cs i, ?_, a1, fun _ b' o' e' => by cases e'; exact ⟨a2, a3⟩⟩
  rw [Nat.zero_add, h4 i hi, e]
  rfl

/-! ### lay -/
/-- What so many writes do: the disk, and the error of the first that errs. -/
def DS.layP (D : DS) (b : Nat) (ls : List Row) : Nat → DS × Int
  | 0 => (D, 0)
  | k + 1 => if (D.layP b ls k).2 = 0 then ((D.layP b ls k).1.writeA ((b + k : Nat) : Int) (ls.getD k []), (D.layP b ls k).1.writeE ((b + k : Nat) : Int) (ls.getD k [])) else D.layP b ls k
theorem DS.layP_stuck {D : DS} {b : Nat} {ls : List Row} {k : Nat} (h : (D.layP b ls k).2 ≠ 0) : ∀ d, D.layP b ls (k + d) = D.layP b ls k
  | 0 => rfl
  | d + 1 => by
    rw [← Nat.add_assoc]
    show (if (D.layP b ls (k + d)).2 = 0 then _ else D.layP b ls (k + d)) = _
    rw [DS.layP_stuck h d, if_neg h]
def DS.layA (D : DS) (b : Nat) (ls : List Row) : DS × Int := if (D.layP b ls ls.length).2 = 0 then ((D.layP b ls ls.length).1.flushA, (D.layP b ls ls.length).1.flushE) else D.layP b ls ls.length
theorem DS.layP_waits {D : DS} {b : Nat} {ls : List Row} {n : Nat} (h : ∀ j, (D.waits j).length ≤ n) : ∀ k j, (((D.layP b ls k).1).waits j).length ≤ n + k
  | 0, j => h j
  | k + 1, j => by
    have ih := DS.layP_waits (b := b) (ls := ls) h k
    show ((if (D.layP b ls k).2 = 0 then _ else D.layP b ls k : DS × Int).1.waits j).length ≤ _
    split
    · exact DS.writeA_waits_le ih j
    · exact Nat.le_succ_of_le (ih j)
theorem DS.layP_lasts (D : DS) (b : Nat) (ls : List Row) : ∀ k, (D.layP b ls k).1.lasts = D.lasts
  | 0 => rfl
  | k + 1 => by
    show (if (D.layP b ls k).2 = 0 then _ else D.layP b ls k : DS × Int).1.lasts = _
    split
    · rw [DS.writeA_lasts]; exact DS.layP_lasts D b ls k
    · exact DS.layP_lasts D b ls k
theorem DS.layA_lasts_length (D : DS) (b : Nat) (ls : List Row) : (D.layA b ls).1.lasts.length = D.lasts.length := by
  unfold DS.layA
  split
  · show (DS.flushA _).lasts.length = _
    rw [DS.flushA_lasts_length, DS.layP_lasts]
  · rw [DS.layP_lasts]
theorem DS.layA_waits {D : DS} {b : Nat} {ls : List Row} {n : Nat} (h : ∀ j, (D.waits j).length ≤ n) (j : Nat) : ((D.layA b ls).1.waits j).length ≤ n + ls.length + 1 := by
  have := DS.layP_waits (b := b) (ls := ls) h ls.length
  unfold DS.layA
  split
  · exact DS.flushA_waits_le this j
  · exact Nat.le_succ_of_le (this j)
def Laid (B p : Nat) (w : World) (S : Nat → Prop) (r : DS × Int) (e : Ending) (w' : World) : Prop := ∃ S', e = .returned (.int .i64 r.2) ∧ Dk B w' p S' r.1 ∧ Kept S w w' ∧ ∀ k, S' k → S k ∨ w.heap.size ≤ k
theorem Kept.after {S S' : Nat → Prop} {a b c : World} (h : Kept S a b) (k : Kept S' b c) (hS : ∀ k, S' k → S k ∨ a.heap.size ≤ k) : Kept S a c := h.trans' k fun i hi hs => (hS i hs).elim id fun h => absurd hi (Nat.not_lt.2 h)
set_option maxRecDepth 100000 in
set_option maxHeartbeats 2000000 in
theorem lay_any {B : Nat} (p : Nat) (S : Nat → Prop) (D : DS) (at_ b o c : Nat) (ls : List Row) (w : World) (h : Dk B w p S D) (hr : RowsM (fun k => k < w.heap.size ∧ ¬ S k) w b o ls) (hat : at_ ≤ 1) (hl : ls.length ≤ 16) (hroom : ∀ i, (D.waits i).length ≤ 900000) :
    Calls Try.prog 61 #[.pointer (some ⟨p, 0, none⟩), .int .i64 at_, .slice (some ⟨b, o, none⟩) ls.length c] w (Laid B p w S (D.layA (16 * at_) ls)) := by
  have H := Lib.hid h; have HR := Lib.hid hr; have HRM := Lib.hid hroom
  clear h hr hroom
  go_enter Try.func61, Try.ntmps61
  go_wp2_with fail
  go_loopw [12] (fun i wr => ∃ (k : Nat) (S' : Nat → Prop), k ≤ ls.length ∧ i = .int .i64 k ∧ Hid ((D.layP (16 * at_) ls k).2 = 0) ∧ Hid (Dk B wr p S' (D.layP (16 * at_) ls k).1) ∧ Hid (Kept S w wr) ∧ Hid (∀ k, S' k → S k ∨ w.heap.size ≤ k) ∧ Hid (RowsM (fun k => k < w.heap.size ∧ ¬ S k) wr b o ls)) (fun i _ => 200 - (intOf i).toNat)
  case atStart => exact ⟨0, S, by omega, rfl, Lib.hid rfl, H, Lib.hid (Kept.refl _ _), Lib.hid (fun k h => .inl h), HR⟩
  case round =>
    obtain ⟨k, S', hk, rfl, HE, HD, HK, HS, HR⟩ := hrel
    by_cases hlt : k < ls.length
    · have q1 : decide ((k : Int) < (ls.length : Int)) = true := decide_eq_true (by omega)
      have q2 : (k : Int) < (ls.length : Int) := by omega
      obtain ⟨A, c1, g1, g2, g3⟩ := HR.out.row k hlt
      obtain ⟨l, hll⟩ : ∃ l, l = ls[k] := ⟨_, rfl⟩
      rw [← hll] at g1 g2 g3
      have HG2 := Lib.hid g2
      have HGD : Hid (ls.getD k [] = l) := Lib.hid (by rw [hll]; simp [List.getD_eq_getElem?_getD, hlt])
      obtain ⟨DK, hDK⟩ : ∃ DK, DK = (D.layP (16 * at_) ls k).1 := ⟨_, rfl⟩
      rw [← hDK] at HD
      have HSU : Hid (D.layP (16 * at_) ls (k + 1) = (DK.writeA ((16 * at_ + k : Nat) : Int) l, DK.writeE ((16 * at_ + k : Nat) : Int) l)) := Lib.hid (by
        show (if (D.layP (16 * at_) ls k).2 = 0 then _ else _) = _
        rw [if_pos HE.out, HGD.out, ← hDK])
      have HRK : Hid (∀ i, (DK.waits i).length ≤ 1000000) := Lib.hid fun i => by
        have := DS.layP_waits (b := 16 * at_) (ls := ls) HRM.out k i
        rw [← hDK] at this; omega
      have hw : (at_ : Int) * 16 + (k : Int) = ((16 * at_ + k : Nat) : Int) := by omega
      have HW := Lib.hid hw
      clear hll hDK g2 g3 hw
      go_wp2_with fail
      rw [HW.out]
      refine (dk_writeA p S' DK _ A l c1 wr HD.out HG2.out HRK.out).mono ?_
      rintro e w1 ⟨S1, rfl, hd, hk1, hS1⟩
      have HD1 := Lib.hid hd
      have HK1 := Lib.hid (HK.out.after hk1 HS.out)
      have HS1 : Hid (∀ k, S1 k → S k ∨ w.heap.size ≤ k) := Lib.hid fun j hj => (hS1 j hj).elim (HS.out j) (fun h => .inr (Nat.le_trans HK.out.size h))
      have HR1 := Lib.hid (HR.out.kept hk1 (fun j hj hs => (HS.out j hs).elim hj.2 (fun h => by omega)))
      clear hd hk1 hS1
      obtain ⟨E, hE⟩ : ∃ E, E = DK.writeE ((16 * at_ + k : Nat) : Int) l := ⟨_, rfl⟩
      rw [← hE] at HSU ⊢
      clear hE
      by_cases hE0 : E = 0
      · subst hE0
        go_wp2_with fail
        go_round
        · exact ⟨k + 1, S1, by omega, by simp, Lib.hid (by rw [HSU.out]), by rw [HSU.out]; exact HD1, HK1, HS1, HR1⟩
        · simp [intOf]; omega
      · have q3 : (E != 0) = true := by simpa using hE0
        have q3' : (E == 0) = false := by simpa using hE0
        have HFIN : Hid (D.layA (16 * at_) ls = (DK.writeA ((16 * at_ + k : Nat) : Int) l, E)) := Lib.hid (by
          have h1 : (D.layP (16 * at_) ls (k + 1)).2 ≠ 0 := by rw [HSU.out]; exact hE0
          have h2 := DS.layP_stuck h1 (ls.length - (k + 1))
          rw [show k + 1 + (ls.length - (k + 1)) = ls.length by omega] at h2
          unfold DS.layA
          rw [h2, if_neg h1, HSU.out])
        go_wp2_with fail
        go_ret
        refine ⟨S1, ?_, ?_, HK1.out, HS1.out⟩
        · rw [HFIN.out]; rfl
        · rw [HFIN.out]; exact HD1.out
    · have q1 : decide ((k : Int) < (ls.length : Int)) = false := decide_eq_false (by omega)
      have hkl : k = ls.length := by omega
      have HKL := Lib.hid hkl
      clear hkl
      go_wp2_with fail
      refine (dk_flushA p S' _ wr HD.out (fun i => by have := DS.layP_waits (b := 16 * at_) (ls := ls) HRM.out k i; omega)).mono ?_
      rintro e w1 ⟨rfl, hd, hk1⟩
      have HD1 := Lib.hid hd
      have HK1 := Lib.hid (HK.out.after hk1 HS.out)
      clear hd hk1
      have HFIN : Hid (D.layA (16 * at_) ls = ((D.layP (16 * at_) ls k).1.flushA, (D.layP (16 * at_) ls k).1.flushE)) := Lib.hid (by
        unfold DS.layA
        rw [← HKL.out, if_pos HE.out])
      go_wp2_with fail
      go_ret
      refine ⟨S', ?_, ?_, HK1.out, HS.out⟩
      · rw [HFIN.out]; rfl
      · rw [HFIN.out]; exact HD1.out
end Go.Proofs.Ythbdlfkdemjpoaa
