/- Plain facts on what a disk is: behind a crash, behind writes. No condition. -/
import Derived.Test.YthbdlfkdemjpoaaS10
namespace Go.Proofs.Ythbdlfkdemjpoaa

theorem DS.waiting_inj {D : DS} {t u i : Nat} (h : D.waiting[t]? = some i) (h' : D.waiting[u]? = some i) : t = u := by
  obtain ⟨ht, e1⟩ := List.getElem?_eq_some_iff.1 h
  obtain ⟨hu, e2⟩ := List.getElem?_eq_some_iff.1 h'
  have hp := List.pairwise_iff_getElem.1 D.waiting_rises
  rcases Nat.lt_trichotomy t u with h1 | h1 | h1
  · have := hp t u ht hu h1; omega
  · exact h1
  · have := hp u t hu ht h1; omega
theorem DS.crashTo_off {D : DS} {picks : List Int} {i : Nat} : ∀ T : Nat, (∀ t, t < T → D.waiting[t]? ≠ some i) → (D.crashTo picks T).getD i [] = D.lasts.getD i []
  | 0, _ => rfl
  | T + 1, h => by
    have ih := DS.crashTo_off (D := D) (picks := picks) (i := i) T (fun t ht => h t (by omega))
    unfold DS.crashTo
    split
    · exact ih
    · rename_i j hj
      split
      · exact ih
      · have hji : j ≠ i := fun e => h T (by omega) (e ▸ hj)
        rw [List.getD_eq_getElem?_getD, List.getElem?_set_ne hji, ← List.getD_eq_getElem?_getD]
        exact ih
theorem DS.crashTo_on {D : DS} {picks : List Int} {i u : Nat} (hu : D.waiting[u]? = some i) (hi : i < D.lasts.length) : ∀ T : Nat, u < T →
    (D.crashTo picks T).getD i [] = if D.pick picks u i = 0 then D.lasts.getD i [] else (D.waits i).getD (D.pick picks u i - 1) []
  | 0, h => absurd h (by omega)
  | T + 1, h => by
    by_cases hT : u = T
    · subst hT
      have ih := DS.crashTo_off (D := D) (picks := picks) (i := i) u (fun t ht e => by have := DS.waiting_inj e hu; omega)
      by_cases hp : D.pick picks u i = 0
      · rw [DS.crashTo_skip hu hp, if_pos hp]; exact ih
      · rw [DS.crashTo_take hu hp, if_neg hp, List.getD_eq_getElem?_getD, List.getElem?_set_self (by rw [DS.crashTo_length]; exact hi)]
        rfl
    · have ih := DS.crashTo_on hu hi (picks := picks) T (by omega)
      unfold DS.crashTo
      split
      · exact ih
      · rename_i j hj
        split
        · exact ih
        · have hji : j ≠ i := fun e => hT (DS.waiting_inj hu (e ▸ hj))
          rw [List.getD_eq_getElem?_getD, List.getElem?_set_ne hji, ← List.getD_eq_getElem?_getD]
          exact ih
/-- A sector behind a crash. -/
theorem DS.crash_read_off {D : DS} (picks : List Int) {i : Nat} (h : D.waits i = []) : (D.crash picks).read i = D.lasts.getD i [] := by
  show (D.crashTo picks D.waiting.length).getD i [] = _
  exact DS.crashTo_off _ fun t _ e => (DS.mem_waiting.1 (List.mem_of_getElem? e)).2 h
theorem DS.crash_read_on {D : DS} (picks : List Int) {i u : Nat} (h : D.waiting[u]? = some i) : (D.crash picks).read i = if D.pick picks u i = 0 then D.lasts.getD i [] else (D.waits i).getD (D.pick picks u i - 1) [] := by
  show (D.crashTo picks D.waiting.length).getD i [] = _
  exact DS.crashTo_on h (DS.mem_waiting.1 (List.mem_of_getElem? h)).1 _ (List.getElem?_eq_some_iff.1 h).1

/-- Many writes to one sector. -/
def DS.writes (D : DS) (i : Nat) (ls : List (List UInt8)) : DS := ls.foldl (fun D l => D.write i l) D
theorem DS.writes_snoc (D : DS) (i : Nat) (ls : List (List UInt8)) (l : List UInt8) : D.writes i (ls ++ [l]) = (D.writes i ls).write i l := by simp [DS.writes]
theorem DS.burn_free {D : DS} (h : D.fuse = -1) : D.burn = D := by
  cases D; simp only at h; subst h; rfl
theorem DS.write_free {D : DS} (h : D.fuse = -1) (i : Nat) (l : List UInt8) : D.write i l = D.put i (pad l) := DS.burn_free h
theorem DS.writes_free {D : DS} (h : D.fuse = -1) (i : Nat) (ls : List (List UInt8)) : (D.writes i ls).fuse = -1 ∧ (D.writes i ls).lasts = D.lasts ∧ (D.writes i ls).waits = fun j => if j = i then D.waits i ++ ls.map pad else D.waits j := by
  induction ls generalizing D with
  | nil =>
    refine ⟨h, rfl, ?_⟩
    funext j
    simp only [DS.writes, List.foldl_nil, List.map_nil, List.append_nil]
    split
    · rename_i e; rw [e]
    · rfl
  | cons l ls ih =>
    have hw := DS.write_free h i l
    have hf : (D.put i (pad l)).fuse = -1 := h
    obtain ⟨h1, h2, h3⟩ := ih hf
    have e : D.writes i (l :: ls) = (D.put i (pad l)).writes i ls := by simp [DS.writes, hw]
    rw [e]
    refine ⟨h1, h2, ?_⟩
    rw [h3]
    funext j
    simp only [DS.put, if_true, List.map_cons]
    split
    · simp
    · rfl
theorem DS.waiting_one {D : DS} {i : Nat} (hi : i < D.lasts.length) (h : ∀ j, j ≠ i → D.waits j = []) (hne : D.waits i ≠ []) : D.waiting = [i] := by
  have hp := D.waiting_rises
  have hm : ∀ j, j ∈ D.waiting ↔ j = i := by
    intro j
    rw [DS.mem_waiting]
    constructor
    · rintro ⟨_, h2⟩
      exact Classical.byContradiction fun hc => h2 (h j hc)
    · rintro rfl; exact ⟨hi, hne⟩
  cases hl : D.waiting with
  | nil => have := (hm i).2 rfl; rw [hl] at this; cases this
  | cons x xs =>
    rw [hl] at hm hp
    have hx : x = i := (hm x).1 (by simp)
    subst hx
    cases xs with
    | nil => rfl
    | cons y ys =>
      have hy : y = x := (hm y).1 (by simp)
      have := (List.pairwise_cons.1 hp).1 y (by simp)
      omega
theorem pad_head (b : UInt8) : (pad [b]).getD 0 0 = b := rfl
end Go.Proofs.Ythbdlfkdemjpoaa
