/- More lemmas on a map's rows. No condition. -/
import Derived.Test.YthbdlfkdemjpoaaM0
namespace Go.Proofs.Ythbdlfkdemjpoaa
open Go.RowKit Go.Maps

theorem pigeon : ∀ (n : Nat) (l : List Nat), l.Nodup → (∀ x ∈ l, x < n) → l.length ≤ n
  | 0, [], _, _ => Nat.le_refl _
  | 0, x :: _, _, h => absurd (h x (by simp)) (by omega)
  | n + 1, l, hn, h => by
    by_cases hm : n ∈ l
    · have h1 := pigeon n (l.erase n) (hn.erase n) (fun x hx => by
        have h2 := h x (List.mem_of_mem_erase hx)
        have h3 : x ≠ n := fun e => by subst e; exact (List.Nodup.not_mem_erase hn) hx
        omega)
      rw [List.length_erase_of_mem hm] at h1
      omega
    · have := pigeon n l hn (fun x hx => by
        have h2 := h x hx
        have h3 : x ≠ n := fun e => hm (e ▸ hx)
        omega)
      omega
section
variable {α : Type} [DecidableEq α]
theorem mfind_some {rs : List (MRow α)} {k : α} {v : Value} (h : mfind rs k = some v) : ∃ r ∈ rs, r.k = k ∧ r.v = v := by
  unfold mfind at h
  rw [Option.map_eq_some_iff] at h
  obtain ⟨r, hr, hv⟩ := h
  exact ⟨r, List.mem_of_find?_eq_some hr, by simpa using List.find?_some hr, hv⟩
theorem mfind_none {rs : List (MRow α)} {k : α} : mfind rs k = none ↔ ∀ r ∈ rs, r.k ≠ k := by
  unfold mfind
  simp
theorem mfind_of_mem {rs : List (MRow α)} (hn : (rs.map (·.k)).Nodup) {r : MRow α} (hr : r ∈ rs) : mfind rs r.k = some r.v := by
  induction rs with
  | nil => cases hr
  | cons x rs ih =>
    simp only [List.map_cons, List.nodup_cons] at hn
    unfold mfind
    rw [List.find?_cons]
    rcases List.mem_cons.1 hr with rfl | hr
    · simp
    · have : x.k ≠ r.k := fun e => hn.1 (e ▸ List.mem_map_of_mem hr)
      simp only [this, decide_false]
      exact ih hn.2 hr
theorem any_mem {rs : List (MRow α)} {k : α} : rs.any (fun r => decide (r.k = k)) = true ↔ k ∈ rs.map (·.k) := by
  simp
theorem keys_mput (rs : List (MRow α)) (k : α) (v : Value) (c : Nat) : (mput rs k v c).map (·.k) = if rs.any (fun r => decide (r.k = k)) then rs.map (·.k) else rs.map (·.k) ++ [k] := by
  unfold mput
  split
  · rw [List.map_map]
    refine List.map_congr_left fun r _ => ?_
    simp only [Function.comp]
    split <;> rfl
  · simp
theorem borns_mput (rs : List (MRow α)) (k : α) (v : Value) (c : Nat) : (mput rs k v c).map (·.born) = if rs.any (fun r => decide (r.k = k)) then rs.map (·.born) else rs.map (·.born) ++ [c] := by
  unfold mput
  split
  · rw [List.map_map]
    refine List.map_congr_left fun r _ => ?_
    simp only [Function.comp]
    split <;> rfl
  · simp
theorem nodup_snoc {β : Type} {l : List β} {x : β} (h : l.Nodup) (hx : x ∉ l) : (l ++ [x]).Nodup := by
  rw [List.nodup_append]
  exact ⟨h, by simp, fun a ha b hb => by rw [List.mem_singleton] at hb; subst hb; exact fun e => hx (e ▸ ha)⟩
theorem nodup_mput {rs : List (MRow α)} (k : α) (v : Value) (c : Nat) (h : (rs.map (·.k)).Nodup) : ((mput rs k v c).map (·.k)).Nodup := by
  rw [keys_mput]
  split
  · exact h
  · rename_i hk
    exact nodup_snoc h (fun hm => hk (any_mem.2 hm))
theorem born_mput {rs : List (MRow α)} (k : α) (v : Value) (c : Nat) (h : (rs.map (·.born)).Nodup) (hs : ∀ r ∈ rs, r.born < c) : ((mput rs k v c).map (·.born)).Nodup := by
  rw [borns_mput]
  split
  · exact h
  · refine nodup_snoc h (fun hm => ?_)
    obtain ⟨r, hr, e⟩ := List.mem_map.1 hm
    have := hs r hr
    omega
theorem mem_mput {rs : List (MRow α)} {k : α} {v : Value} {c : Nat} {r : MRow α} (h : r ∈ mput rs k v c) : (r ∈ rs ∧ r.k ≠ k) ∨ (r.k = k ∧ r.v = v ∧ (r.born = c ∨ ∃ r0 ∈ rs, r0.k = k ∧ r.born = r0.born)) := by
  unfold mput at h
  split at h
  · obtain ⟨r0, h0, e⟩ := List.mem_map.1 h
    split at e
    · rename_i hk
      subst e
      exact .inr ⟨hk, rfl, .inr ⟨r0, h0, hk, rfl⟩⟩
    · rename_i hk
      subst e
      exact .inl ⟨h0, hk⟩
  · rename_i hk
    rcases List.mem_append.1 h with h | h
    · exact .inl ⟨h, fun e => hk (any_mem.2 (e ▸ List.mem_map_of_mem h))⟩
    · rw [List.mem_singleton] at h
      subst h
      exact .inr ⟨rfl, rfl, .inl rfl⟩
theorem since_mput {rs : List (MRow α)} {k : α} {v : Value} {c : Nat} (hs : ∀ r ∈ rs, r.born < c) : ∀ r ∈ mput rs k v c, r.born < mclock rs k c := by
  intro r hr
  unfold mclock
  unfold mput at hr
  split at hr
  · rename_i hk
    rw [if_pos hk]
    obtain ⟨r0, h0, e⟩ := List.mem_map.1 hr
    have := hs r0 h0
    split at e <;> (subst e; exact this)
  · rename_i hk
    rw [if_neg hk]
    rcases List.mem_append.1 hr with hr | hr
    · have := hs r hr; omega
    · rw [List.mem_singleton] at hr
      subst hr
      simp
theorem mfind_mput (rs : List (MRow α)) (k : α) (v : Value) (c : Nat) (j : α) : mfind (mput rs k v c) j = if j = k then some v else mfind rs j := by
  unfold mput
  by_cases hk : rs.any (fun r => decide (r.k = k)) = true
  · rw [if_pos hk]
    clear c
    by_cases hj : j = k
    · subst hj
      rw [if_pos rfl]
      induction rs with
      | nil => simp at hk
      | cons x rs ih =>
        unfold mfind
        rw [List.map_cons, List.find?_cons]
        by_cases hx : x.k = j
        · simp [hx]
        · simp only [hx, if_false, decide_false]
          refine ih ?_
          simpa [hx] using hk
    · rw [if_neg hj]
      clear hk
      induction rs with
      | nil => rfl
      | cons x rs ih =>
        unfold mfind at ih ⊢
        rw [List.map_cons, List.find?_cons, List.find?_cons]
        by_cases hx : x.k = k
        · have : ¬ k = j := fun e => hj e.symm
          simp only [hx, if_true, this, decide_false]
          exact ih
        · simp only [hx, if_false]
          by_cases hxj : x.k = j
          · simp [hxj]
          · simp only [hxj, decide_false]; exact ih
  · rw [if_neg hk]
    unfold mfind
    rw [List.find?_append]
    by_cases hj : j = k
    · subst hj
      have : rs.find? (fun r => decide (r.k = j)) = none := by
        rw [List.find?_eq_none]
        intro r hr hc
        exact hk (List.any_eq_true.2 ⟨r, hr, hc⟩)
      simp [this]
    · have : ¬ k = j := fun e => hj e.symm
      simp [hj, this]
end
/-- '[]T{x}' of one wide element. -/
theorem foldl_set_all : ∀ (l : List Value) (o : Nat) (cs : Array Value), o + l.length = cs.size → (l.zipIdx o).foldl (fun cs (p : Value × Nat) => cs.setIfInBounds p.2 p.1) cs = (cs.toList.take o ++ l).toArray
  | [], o, cs, h => by
    simp only [List.length_nil, Nat.add_zero] at h
    subst h
    apply Array.ext'
    simp [List.take_of_length_le]
  | x :: l, o, cs, h => by
    simp only [List.length_cons] at h
    rw [List.zipIdx_cons, List.foldl_cons, foldl_set_all l (o + 1) _ (by simp; omega)]
    congr 1
    have hl : o < cs.toList.length := by simp; omega
    rw [Array.toList_setIfInBounds, List.take_set, List.take_succ_eq_append_getElem hl, List.set_append_right _ _ (by simp; omega)]
    have : min o cs.size = o := by omega
    simp [this]
theorem run_buildSlice_one {P : Program} {w : World} {t e : TypeId} {i : TypeInfo} {z : Value} {n : Nat} (ht : P.underlying t = some (.slice e)) (hi : P.info? e = some i) (hz : i.zero = some z) (hs : i.size = n) (hzs : z.cells.size = n) (hn : 0 < n) (hb : n ≤ 4096) (cs : Array Value) (hc : cs.size = n) :
    (Instr.buildSlice t 1 #[(0, .agg cs)]).run P w = .ok (.slice (some ⟨w.heap.size, 0, none⟩) 1 1) (w.alloc (.cells cs e)) := by
  subst hs
  have h1 : ¬ (1 * i.size > 2 ^ 24) := by omega
  have h2 : ¬ (1 * i.size = 0) := by omega
  have hfill : ∀ Z : Array Value, Z.size = i.size → Instr.fill (fun j => some (j * i.size, i.size)) Z [(0, .agg cs)] = some cs := by
    intro Z hZ
    have := foldl_set_all cs.toList 0 Z (by simp [hc, hZ])
    simp only [List.take_zero, List.nil_append, Array.toArray_toList] at this
    simp only [Instr.fill, Value.cells, Nat.zero_mul, Nat.zero_add]
    rw [if_neg (by simp [hc, hZ]), ← Array.foldl_toList, Array.toList_zipIdx, this]
  simp only [Instr.buildSlice, Sem.run_bind, run_underlying ht, Result.andThen_ok, sizeOf, typeInfo, hi, Sem.run_pure, program, Sem.run]
  simp only [h1, h2, if_false, zeroValue, typeInfo, program, Sem.run_bind, Sem.run, hi, hz, Result.andThen_ok, Sem.run_pure]
  rw [hfill _ (by simp)]
  rfl
end Go.Proofs.Ythbdlfkdemjpoaa
