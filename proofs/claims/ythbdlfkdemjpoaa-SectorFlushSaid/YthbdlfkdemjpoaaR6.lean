/- Plain facts on a crash, sector by sector, as the second reference makes it. No condition. -/
import Derived.Test.YthbdlfkdemjpoaaR5
namespace Go.Proofs.Ythbdlfkdemjpoaa

theorem DS.waitTo_all (D : DS) : D.waitTo D.lasts.length = D.waiting := rfl
/-- A sector that waits stands in the row of those that wait where those below it end. -/
theorem DS.waiting_at (D : DS) (i : Nat) (hi : i < D.lasts.length) (hw : D.waits i ≠ []) : D.waiting[(D.waitTo i).length]? = some i := by
  obtain ⟨d, hd⟩ : ∃ d, D.lasts.length = i + 1 + d := ⟨D.lasts.length - (i + 1), by omega⟩
  have h1 : D.waitTo (i + 1) = D.waitTo i ++ [i] := by
    rw [D.waitTo_succ]
    have : (D.waits i).isEmpty = false := by cases h : D.waits i with | nil => exact absurd h hw | cons => rfl
    rw [this]; rfl
  have h2 : ∀ d, ∃ r, D.waitTo (i + 1 + d) = D.waitTo (i + 1) ++ r := by
    intro d
    induction d with
    | zero => exact ⟨[], by simp⟩
    | succ d ih =>
      obtain ⟨r, hr⟩ := ih
      refine ⟨r ++ (if (D.waits (i + 1 + d)).isEmpty then [] else [i + 1 + d]), ?_⟩
      rw [← Nat.add_assoc, D.waitTo_succ, hr, List.append_assoc]
  obtain ⟨r, hr⟩ := h2 d
  rw [← D.waitTo_all, hd, hr, h1]
  simp
/-- Which version is picked of a sector. -/
def DS.pickOf (D : DS) (picks : List Int) (i : Nat) : Nat := D.pick picks (D.waitTo i).length i
theorem DS.pickOf_lt (D : DS) (picks : List Int) (i : Nat) : D.pickOf picks i < (D.vers i).length := by
  rw [D.vers_length]; exact Nat.mod_lt _ (by omega)
theorem DS.crash_lasts (D : DS) (picks : List Int) (i : Nat) (hi : i < D.lasts.length) :
    (D.crash picks).lasts.getD i [] = if D.waits i = [] then D.lasts.getD i [] else (D.vers i)[D.pickOf picks i]'(D.pickOf_lt picks i) := by
  split
  · rename_i h
    exact DS.crash_read_off picks h
  · rename_i h
    have h1 := DS.crash_read_on picks (D.waiting_at i hi h)
    have h2 : (D.crash picks).read i = (D.crash picks).lasts.getD i [] := rfl
    rw [← h2, h1]
    show (if D.pickOf picks i = 0 then _ else (D.waits i).getD (D.pickOf picks i - 1) []) = _
    have hlt := D.pickOf_lt picks i
    unfold DS.vers
    split
    · rename_i h0
      simp [h0]
    · rename_i h0
      obtain ⟨p, hp⟩ : ∃ p, D.pickOf picks i = p + 1 := ⟨D.pickOf picks i - 1, by omega⟩
      rw [D.vers_length] at hlt
      simp only [hp, Nat.add_sub_cancel, List.getElem_cons_succ]
      rw [List.getD_eq_getElem?_getD, List.getElem?_eq_getElem (by omega)]
      rfl
/-- The first k sectors are crashed. -/
def DS.crashK (D : DS) (picks : List Int) (k : Nat) : DS := ⟨(List.range D.lasts.length).map (fun i => if i < k then (D.crash picks).lasts.getD i [] else D.lasts.getD i []), fun i => if i < k then [] else D.waits i, D.fuse⟩
theorem DS.crashK_zero (D : DS) (picks : List Int) : D.crashK picks 0 = D := by
  obtain ⟨L, ws, f⟩ := D
  simp only [DS.crashK, Nat.not_lt_zero, if_false, DS.mk.injEq, and_true]
  apply List.ext_getElem
  · simp
  · intro j h1 h2; simp [h2]
theorem DS.crashK_length (D : DS) (picks : List Int) (k : Nat) : (D.crashK picks k).lasts.length = D.lasts.length := by simp [DS.crashK]
theorem DS.crashK_vers (D : DS) (picks : List Int) (k i : Nat) (hi : i < D.lasts.length) : (D.crashK picks k).vers i = if i < k then [(D.crash picks).lasts.getD i []] else D.vers i := by
  unfold DS.vers DS.crashK
  simp only [List.getD_eq_getElem?_getD, List.getElem?_map, List.getElem?_range hi, Option.map_some, Option.getD_some]
  split <;> rfl
theorem DS.crashK_all {D : DS} (h : D.Ok) (picks : List Int) : { D.crashK picks D.lasts.length with fuse := -1 } = D.crash picks := by
  show (⟨(List.range D.lasts.length).map (fun i => if i < D.lasts.length then (D.crash picks).lasts.getD i [] else D.lasts.getD i []), fun i => if i < D.lasts.length then [] else D.waits i, -1⟩ : DS) = ⟨D.crashTo picks D.waiting.length, fun _ => [], -1⟩
  simp only [DS.mk.injEq, and_true]
  constructor
  · apply List.ext_getElem
    · simp [DS.crashTo_length]
    · intro j h1 h2
      have hj : j < D.lasts.length := by simpa using h1
      have h3 : (D.crash picks).lasts.getD j [] = (D.crashTo picks D.waiting.length)[j] := by
        show (D.crashTo picks D.waiting.length).getD j [] = _
        rw [List.getD_eq_getElem?_getD, List.getElem?_eq_getElem h2]; rfl
      simp only [List.getElem_map, List.getElem_range, if_pos hj]
      exact h3
  · funext i
    split
    · rfl
    · rename_i h1
      exact Classical.byContradiction fun h2 => h1 (h.inside i h2)
/-- A sector that does not wait is as it was. -/
theorem DS.crashK_skip (D : DS) (picks : List Int) (k : Nat) (hk : k < D.lasts.length) (hw : D.waits k = []) : D.crashK picks (k + 1) = D.crashK picks k := by
  simp only [DS.crashK, DS.mk.injEq, and_true]
  constructor
  · refine List.map_congr_left fun i _ => ?_
    by_cases h1 : i < k
    · rw [if_pos h1, if_pos (by omega)]
    · by_cases h2 : i = k
      · subst h2
        rw [if_pos (by omega), if_neg h1, D.crash_lasts picks i hk, if_pos hw]
      · rw [if_neg h1, if_neg (by omega)]
  · funext i
    by_cases h1 : i < k
    · rw [if_pos h1, if_pos (by omega)]
    · by_cases h2 : i = k
      · subst h2; rw [if_pos (by omega), if_neg h1, hw]
      · rw [if_neg h1, if_neg (by omega)]
end Go.Proofs.Ythbdlfkdemjpoaa
