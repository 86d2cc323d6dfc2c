/- Plain facts: a disk without a fuse on which a Super was laid, told by what Open finds. No condition. -/
import Derived.Test.YthbdlfkdemjpoaaB11
namespace Go.Proofs.Ythbdlfkdemjpoaa

def zeroSlot : List Row := List.replicate 16 zeroSec
/-- X is what stands on a disk without a fuse; O is the slot ahead. -/
structure DS.Holds (D : DS) (X : SS) (O : List Row) : Prop where
  free : D.fuse < 0
  dry : ∀ i, D.waits i = []
  wide : 32 ≤ D.lasts.length
  ok : X.Ok
  same : X.snum = X.num
  one : 1 ≤ X.num
  live : X.dead = false
  cur : D.slot (16 * X.at_) 16 = packK X.num X.img 16
  ahead : D.slot (16 * (1 - X.at_)) 16 = O
  old : (O = zeroSlot) ∨ (∃ img, img.length ≤ 814 ∧ 2 ≤ X.num ∧ O = packK (X.num - 1) img 16)
theorem packK_row_length {n : Nat} {img : Row} (h : img.length ≤ 814) {r : Row} (hr : r ∈ packK n img 16) : r.length = 64 := by
  obtain ⟨i, hi, rfl⟩ := packK_mem hr
  unfold packRow
  rw [List.length_append, packHead_length h hi, leB_length]
theorem pad_full {l : Row} (h : l.length = 64) : pad l = l := by simp [pad, h]
theorem pad_nil : pad [] = zeroSec := by simp [pad, zeroSec]
theorem slot_get (D : DS) (b k i : Nat) (hi : i < k) : (D.slot b k)[i]? = some (D.read (b + i)) := by
  simp [DS.slot, hi]
/-- A slot laid on a disk without a fuse, and the other slot. -/
theorem DS.layA_slot {D : DS} {s : Nat} {ls : List Row} (hf : D.fuse < 0) (hl : ls.length = 16) (hw : 32 ≤ D.lasts.length) (hs : s ≤ 1) (hr : ∀ r ∈ ls, r.length ≤ 64) :
    (D.layA (16 * s) ls).2 = 0 ∧ (D.layA (16 * s) ls).1.fuse < 0 ∧ (∀ i, (D.layA (16 * s) ls).1.waits i = []) ∧ (D.layA (16 * s) ls).1.slot (16 * s) 16 = ls.map pad ∧ (D.layA (16 * s) ls).1.slot (16 * (1 - s)) 16 = D.slot (16 * (1 - s)) 16 := by
  obtain ⟨h1, h2, h3, h4⟩ := DS.layA_free (D := D) (b := 16 * s) (ls := ls) hf (by omega) hr
  refine ⟨h1, by rw [h2]; exact hf, h3, ?_, ?_⟩
  · apply List.ext_getElem?
    intro i
    by_cases hi : i < 16
    · rw [slot_get _ _ _ _ hi, h4 _ (by omega), if_pos (by omega)]
      have e : 16 * s + i - 16 * s = i := by omega
      rw [e, List.getElem?_map, List.getD_eq_getElem?_getD, List.getElem?_eq_getElem (show i < ls.length by omega)]
      rfl
    · rw [List.getElem?_eq_none (by rw [DS.slot_length]; omega), List.getElem?_eq_none (by rw [List.length_map]; omega)]
  · unfold DS.slot
    refine List.map_congr_left fun i hi => ?_
    have hi' : i < 16 := by simpa using hi
    rw [h4 _ (by omega), if_neg (by omega)]
theorem packK_pad {n : Nat} {img : Row} (h : img.length ≤ 814) : (packK n img 16).map pad = packK n img 16 := by
  conv => rhs; rw [← List.map_id (packK n img 16)]
  exact List.map_congr_left fun r hr => pad_full (packK_row_length h hr)
theorem DS.format_free {D : DS} {img : Row} (hf : D.fuse < 0) (hw : 32 ≤ D.lasts.length) (hi : img.length ≤ 814) : D.formatE img = 0 ∧ (D.formatD img).Holds ⟨1, img, 0, 1, false⟩ zeroSlot := by
  obtain ⟨a1, a2, a3, a4, a5⟩ := DS.layA_slot (D := D) (s := 1) (ls := nilL) hf (by simp [nilL]) hw (by omega) (fun r hr => by rw [List.eq_of_mem_replicate hr]; simp)
  have hw1 : 32 ≤ D.formatL1.1.lasts.length := by unfold DS.formatL1; rw [DS.layA_lasts_length]; exact hw
  obtain ⟨b1, b2, b3, b4, b5⟩ := DS.layA_slot (D := D.formatL1.1) (s := 0) (ls := packK 1 img 16) a2 (packK_length ..) hw1 (by omega) (fun r hr => by rw [packK_row_length hi hr]; omega)
  have e1 : D.formatL1.2 = 0 := a1
  have e2 : D.formatD img = (D.formatL2 img).1 := by unfold DS.formatD; rw [if_neg (by omega), if_neg (by omega), if_neg (by omega)]
  have e3 : D.formatE img = (D.formatL2 img).2 := by unfold DS.formatE; rw [if_neg (by omega), if_neg (by omega), if_neg (by omega)]
  refine ⟨by rw [e3]; exact b1, ?_⟩
  rw [e2]
  refine ⟨b2, b3, ?_, ⟨by show 1 ≤ 1125899906842624; omega, hi, by show 0 ≤ 1; omega, by show 1 ≤ 1125899906842624; omega⟩, rfl, Nat.le_refl _, rfl, ?_, ?_, .inl rfl⟩
  · show 32 ≤ (D.formatL2 img).1.lasts.length
    unfold DS.formatL2
    rw [DS.layA_lasts_length]
    exact hw1
  · exact b4.trans (packK_pad hi)
  · refine b5.trans (a4.trans ?_)
    simp [nilL, zeroSlot, pad_nil]
theorem DS.commit_free {D : DS} {X : SS} {O : List Row} {img : Row} (h : D.Holds X O) (hi : img.length ≤ 814) (hn : X.num < 1125899906842624) :
    D.commitE X img = 0 ∧ D.commitX X img = ⟨X.num + 1, img, 1 - X.at_, X.num + 1, false⟩ ∧ (D.commitD X img).Holds (D.commitX X img) (packK X.num X.img 16) := by
  have hat := h.ok.at_
  obtain ⟨b1, b2, b3, b4, b5⟩ := DS.layA_slot (D := D) (s := 1 - X.at_) (ls := packK (X.num + 1) img 16) h.free (packK_length ..) h.wide (by omega) (fun r hr => by rw [packK_row_length hi hr]; omega)
  have hnd : ¬ X.dead = true := by rw [h.live]; simp
  have hnb : ¬ commitBad X img := by unfold commitBad; omega
  have e1 : D.commitE X img = (D.commitL X img).2 := by unfold DS.commitE; rw [if_neg hnd, if_neg hnb]
  have e2 : D.commitD X img = (D.commitL X img).1 := by unfold DS.commitD; rw [if_neg hnd, if_neg hnb]
  have e3 : D.commitX X img = ⟨X.num + 1, img, 1 - X.at_, X.num + 1, false⟩ := by unfold DS.commitX; rw [if_neg hnd, if_neg hnb, if_pos (show (D.commitL X img).2 = 0 from b1)]
  refine ⟨by rw [e1]; exact b1, e3, ?_⟩
  have e4 : 1 - (1 - X.at_) = X.at_ := by omega
  rw [e4] at b5
  rw [e2, e3]
  refine ⟨b2, b3, ?_, ⟨by show X.num + 1 ≤ 1125899906842624; omega, hi, by show 1 - X.at_ ≤ 1; omega, by show X.num + 1 ≤ 1125899906842624; omega⟩, rfl, by show 1 ≤ X.num + 1; omega, rfl, ?_, ?_, .inr ⟨X.img, h.ok.img, by have := h.one; show 2 ≤ X.num + 1; omega, rfl⟩⟩
  · show 32 ≤ (D.layA _ _).1.lasts.length
    rw [DS.layA_lasts_length]; exact h.wide
  · exact b4.trans (packK_pad hi)
  · show (D.layA _ _).1.slot (16 * (1 - (1 - X.at_))) 16 = _
    rw [e4, ← h.cur]
    exact b5
theorem numB_zeros : ∀ n, numB (List.replicate n 0) = 0
  | 0 => rfl
  | n + 1 => by rw [List.replicate_succ', numB_snoc, numB_zeros n]; simp
theorem rowNum_zero : rowNum zeroSec = 0 := by
  unfold rowNum
  have : numB (zeroSec.take 8) = 0 := by
    have e : zeroSec.take 8 = List.replicate 8 0 := rfl
    rw [e, numB_zeros]
  rw [this]
  split <;> rfl
theorem greatest_zero : greatest zeroSlot = 0 :=
  greatest_const (by simp [zeroSlot]) fun r hr => by rw [List.eq_of_mem_replicate hr]; exact rowNum_zero
theorem wholeOf_zero : wholeOf zeroSlot = none := by
  unfold wholeOf
  have : numOf zeroSlot = 0 := by
    unfold numOf
    have e : (zeroSlot.getD 0 []).take 8 = List.replicate 8 0 := rfl
    rw [e, numB_zeros]
  rw [if_pos (.inr (.inr (by omega)))]
/-- Open finds it. -/
theorem DS.open_free {D : DS} {X : SS} {O : List Row} (h : D.Holds X O) : openK D 2 = (true, X) := by
  have hat := h.ok.at_
  have hw : wholeOf (packK X.num X.img 16) = some (X.num, X.img) := wholeOf_pack h.ok.img h.one h.ok.num
  have hg : greatest (packK X.num X.img 16) = X.num := greatest_pack h.ok.img h.ok.num
  have ho : (wholeOf O = none ∧ greatest O = 0) ∨ ∃ img, wholeOf O = some (X.num - 1, img) ∧ greatest O = X.num - 1 ∧ 2 ≤ X.num := by
    rcases h.old with rfl | ⟨img, h1, h2, rfl⟩
    · exact .inl ⟨wholeOf_zero, greatest_zero⟩
    · have := h.ok.num
      exact .inr ⟨img, wholeOf_pack h1 (by omega) (by omega), greatest_pack h1 (by omega), h2⟩
  obtain ⟨sn, img, at_, num, dead⟩ := X
  obtain ⟨rfl⟩ : sn = num := h.same
  obtain ⟨rfl⟩ : dead = false := h.live
  have hc := h.cur
  have ha := h.ahead
  simp only at hc ha hw hg hat ho
  have h1 := h.one
  simp only at h1
  rcases (show at_ = 0 ∨ at_ = 1 by omega) with rfl | rfl
  · have hc' : D.slot (16 * 0) 16 = packK sn img 16 := hc
    have ha' : D.slot (16 * 1) 16 = O := ha
    rcases ho with ⟨o1, o2⟩ | ⟨im, o1, o2, o3⟩
    · simp [openK, hc', ha', hw, hg, o1, o2]
    · simp only [openK, hc', ha', hw, hg, o1, o2, true_or, if_true]
      rw [if_neg (by simp)]
      simp
  · have hc' : D.slot (16 * 1) 16 = packK sn img 16 := hc
    have ha' : D.slot (16 * 0) 16 = O := ha
    rcases ho with ⟨o1, o2⟩ | ⟨im, o1, o2, o3⟩
    · simp [openK, hc', ha', hw, hg, o1, o2]
    · simp only [openK, hc', ha', hw, hg, o1, o2, true_or, if_true]
      rw [if_pos (.inr (by omega))]
      simp
end Go.Proofs.Ythbdlfkdemjpoaa
