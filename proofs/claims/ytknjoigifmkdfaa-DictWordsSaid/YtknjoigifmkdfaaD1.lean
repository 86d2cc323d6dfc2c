import Derived.Test.YtknjoigifmkdfaaD0
namespace Go.Proofs.Ytknjoigifmkdfaa
open Go.RowKit Go.Maps

/-! ### what is told of the words: plain -/
theorem keepsL_iff (ls : List (List UInt8)) (j : Nat) (hj : j + 1 < ls.length) : Lib.keeps ls.toArray (j + 1) = decide (ls[j + 1] ≠ ls[j]) := by
  unfold Lib.keeps
  have e1 : ls.toArray[j + 1]! = ls[j + 1] := by simp [hj]
  have e2 : ls.toArray[j + 1 - 1]! = ls[j] := by have : j < ls.length := by omega
                                                 simp [this]
  rw [e1, e2]
  simp
/-- Compact of a row that rises (weakly): each once, rising. -/
theorem compactUpTo_spec (ls : List (List UInt8)) (hs : ls.Pairwise (· ≤ ·)) (m : Nat) (hm : m ≤ ls.length) :
    (Lib.compactUpTo ls.toArray m).Pairwise (· < ·) ∧ (∀ x, x ∈ Lib.compactUpTo ls.toArray m ↔ x ∈ ls.take m) ∧ (∀ h : 0 < m, (Lib.compactUpTo ls.toArray m).getLast? = some ls[m - 1]) := by
  induction m with
  | zero => simp [Lib.compactUpTo]
  | succ m ih =>
    obtain ⟨i1, i2, i3⟩ := ih (by omega)
    have hm' : m < ls.length := by omega
    have eg : ls.toArray[m]! = ls[m] := by simp [hm']
    rw [Lib.compactUpTo_succ, eg]
    cases m with
    | zero =>
      have hk : Lib.keeps ls.toArray 0 = true := by simp [Lib.keeps]
      have h0 : Lib.compactUpTo ls.toArray 0 = [] := by simp [Lib.compactUpTo]
      rw [hk, h0, List.take_succ_eq_append_getElem hm']
      simp
    | succ j =>
      have hle : ls[j] ≤ ls[j + 1] := List.pairwise_iff_getElem.1 hs j (j + 1) (by omega) hm' (by omega)
      rw [keepsL_iff ls j hm', List.take_succ_eq_append_getElem hm']
      have il := i3 (by omega)
      simp only [Nat.add_sub_cancel] at il
      by_cases he : ls[j + 1] = ls[j]
      · rw [he]
        simp only [ne_eq, not_true_eq_false, decide_false, Bool.false_eq_true, if_false, List.append_nil]
        refine ⟨i1, fun x => ?_, fun _ => ?_⟩
        · rw [i2, List.mem_append, List.mem_singleton]
          refine ⟨Or.inl, ?_⟩
          rintro (h | rfl)
          · exact h
          · exact (i2 _).1 (List.mem_of_getLast? il)
        · rw [il]; simp [he]
      · simp only [ne_eq, he, not_false_eq_true, decide_true, if_true]
        refine ⟨?_, fun x => ?_, fun _ => by simp⟩
        · rw [List.pairwise_append]
          refine ⟨i1, by simp, ?_⟩
          intro x hx y hy
          rw [List.mem_singleton] at hy
          subst hy
          have hxj : x ≤ ls[j] := by
            have := (i2 x).1 hx
            obtain ⟨q, hq, rfl⟩ := List.mem_take_iff_getElem.1 this
            rcases Nat.lt_or_ge q j with hlt | hge
            · exact List.pairwise_iff_getElem.1 hs q j (by omega) (by omega) hlt
            · have : q = j := by omega
              subst this; exact List.le_refl _
          have hlt : ls[j] < ls[j + 1] := Classical.byContradiction fun hn => he (List.le_antisymm (List.not_lt.1 hn) hle)
          exact List.lt_of_le_of_lt hxj hlt
        · rw [List.mem_append, i2, List.mem_append]
theorem sorted_pairwise (ls : List (List UInt8)) : (sorted ls).Pairwise (· ≤ ·) := by
  have h := List.pairwise_mergeSort (le := fun x y : List UInt8 => decide (x ≤ y)) (fun a b c h1 h2 => by simp at *; exact List.le_trans h1 h2) (fun a b => by simp; exact List.le_total a b) ls
  exact h.imp (fun hab => of_decide_eq_true hab)
theorem wordsL_rises (ss : List ByteArray) : (wordsL ss).Pairwise (· < ·) := (compactUpTo_spec _ (sorted_pairwise _) _ (Nat.le_refl _)).1
theorem mem_wordsL (ss : List ByteArray) (x : List UInt8) : x ∈ wordsL ss ↔ x ∈ ss.map bl := by
  have := (compactUpTo_spec (sorted (ss.map bl)) (sorted_pairwise _) _ (Nat.le_refl _)).2.1 x
  rw [List.take_length] at this
  exact this.trans (List.mem_mergeSort)
theorem wordsL_le (ss : List ByteArray) : (wordsL ss).length ≤ ss.length := by
  have := compact_le (sorted (ss.map bl))
  rw [sorted_length, List.length_map] at this
  exact this
/-- Two rows that rise, with the same members, are one. -/
theorem rises_unique : ∀ (a b : List (List UInt8)), a.Pairwise (· < ·) → b.Pairwise (· < ·) → (∀ x, x ∈ a ↔ x ∈ b) → a = b
  | [], [], _, _, _ => rfl
  | [], y :: b, _, _, h => absurd ((h y).2 (by simp)) (by simp)
  | x :: a, [], _, _, h => absurd ((h x).1 (by simp)) (by simp)
  | x :: a, y :: b, ha, hb, h => by
    rw [List.pairwise_cons] at ha hb
    have hxy : x = y := by
      rcases List.mem_cons.1 ((h x).1 (by simp)) with e | e
      · exact e
      · rcases List.mem_cons.1 ((h y).2 (by simp)) with e' | e'
        · exact e'.symm
        · exact absurd (List.lt_trans (hb.1 x e) (ha.1 y e')) (List.lt_irrefl _)
    subst hxy
    congr 1
    refine rises_unique a b ha.2 hb.2 fun z => ⟨fun hz => ?_, fun hz => ?_⟩
    · rcases List.mem_cons.1 ((h z).1 (by simp [hz])) with e | e
      · subst e; exact absurd (ha.1 _ hz) (List.lt_irrefl _)
      · exact e
    · rcases List.mem_cons.1 ((h z).2 (by simp [hz])) with e | e
      · subst e; exact absurd (hb.1 _ hz) (List.lt_irrefl _)
      · exact e
/-- The words of words are they. -/
theorem wordsL_idem (ls : List (List UInt8)) (h : ls.Pairwise (· < ·)) : wordsL (ls.map ba) = ls := by
  refine rises_unique _ _ (wordsL_rises _) h fun x => ?_
  rw [mem_wordsL, List.map_map]
  show x ∈ ls.map (bl ∘ ba) ↔ _
  rw [show (bl ∘ ba) = id from rfl, List.map_id]
end Go.Proofs.Ytknjoigifmkdfaa
