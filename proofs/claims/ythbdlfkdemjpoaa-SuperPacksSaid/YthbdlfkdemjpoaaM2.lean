/- A range over a map, row by row. No condition. -/
import Derived.Test.YthbdlfkdemjpoaaM1
namespace Go.Proofs.Ythbdlfkdemjpoaa
open Go.RowKit Go.Maps

section
variable {α : Type} (enc : α → Value)
/-- A range over the map bm is under way: its iterator is block r; left: the rows that are still to come. -/
structure Ranging (w : World) (bm r clock : Nat) (rs left : List (MRow α)) : Prop where
  map : w.heap[bm]? = some (.map (rs.map (MRow.e enc)).toArray clock)
  iter : ∃ seen : Array Nat, w.heap[r]? = some (.mapIter (some bm) clock seen clock) ∧ left = rs.filter fun x => !seen.contains x.born
  since : ∀ x ∈ rs, x.born < clock
  born : (rs.map (·.born)).Nodup
variable {enc}
theorem Ranging.sub {w : World} {bm r clock : Nat} {rs left : List (MRow α)} (h : Ranging enc w bm r clock rs left) : ∀ x ∈ left, x ∈ rs := by
  obtain ⟨seen, _, rfl⟩ := h.iter
  exact fun x hx => (List.mem_filter.1 hx).1
theorem Ranging.fix {w w' : World} {bm r clock : Nat} {rs left : List (MRow α)} (h : Ranging enc w bm r clock rs left) (h1 : w'.heap[bm]? = w.heap[bm]?) (h2 : w'.heap[r]? = w.heap[r]?) : Ranging enc w' bm r clock rs left := by
  obtain ⟨seen, hs, hl⟩ := h.iter
  exact ⟨h1.trans h.map, ⟨seen, h2.trans hs, hl⟩, h.since, h.born⟩
theorem Ranging.start {w : World} {bm clock : Nat} {rs : List (MRow α)} (h : w.heap[bm]? = some (.map (rs.map (MRow.e enc)).toArray clock)) (hs : ∀ x ∈ rs, x.born < clock) (hb : (rs.map (·.born)).Nodup) :
    Ranging enc (w.alloc (.mapIter (some bm) clock #[] clock)) bm w.heap.size clock rs rs :=
  ⟨by rw [Below.heap_alloc _ _ _ (lt_of h)]; exact h, ⟨#[], heap_alloc_new w _, (List.filter_eq_self.2 fun _ _ => by simp).symm⟩, hs, hb⟩
theorem run_range_map {P : Program} {w : World} {t kt et bm clock : Nat} {es : Array MapEntry} (ht : P.underlying t = some (.map kt et)) (h : w.heap[bm]? = some (.map es clock)) :
    (Instr.range t (.map (some bm))).run P w = .ok (.pointer (some ⟨w.heap.size, 0, none⟩)) (w.alloc (.mapIter (some bm) clock #[] clock)) := by
  simp only [Instr.range, Sem.run_bind, run_underlying ht, Result.andThen_ok, run_getObj_map' h, Sem.run_pure]
  rfl
theorem run_getObj_iter {P : Program} {w : World} {r : Nat} {m : Option Nat} {a b : Nat} {seen : Array Nat} (h : w.heap[r]? = some (.mapIter m a seen b)) : (getObj r).run P w = .ok (.mapIter m a seen b) w := by
  simp [getObj, Sem.run, h]
theorem run_setObj_iter {P : Program} {w : World} {r : Nat} {m : Option Nat} {a b : Nat} {seen : Array Nat} (o : Obj) (h : w.heap[r]? = some (.mapIter m a seen b)) : (Go.setObj r o).run P w = .ok () (setObj w r o) := by
  simp [Go.setObj, Sem.run, h, setObj]
theorem filter_rows (rs : List (MRow α)) (p : Nat → Bool) : (rs.map (MRow.e enc)).toArray.filter (fun e => p e.born) = ((rs.filter fun x => p x.born).map (MRow.e enc)).toArray := by
  simp [List.filter_map, Function.comp_def, MRow.e]
/-- One step of a range. -/
theorem Ranging.next {P : Program} {w : World} {bm r clock : Nat} {rs left : List (MRow α)} (h : Ranging enc w bm r clock rs left) (ty : TypeId) :
    (left = [] ∧ (Instr.next (.pointer (some ⟨r, 0, none⟩)) false ty).run P w = .ok (.tuple #[.bool false]) w) ∨
    (∃ x ∈ left, ∃ n seen, (Instr.next (.pointer (some ⟨r, 0, none⟩)) false ty).run P w = .ok (.tuple #[.bool true, enc x.k, x.v]) (setObj (w.drewN n) r (.mapIter (some bm) clock (seen.push x.born) clock)) ∧
      w.heap[r]? = some (.mapIter (some bm) clock seen clock) ∧ left = rs.filter fun x => !seen.contains x.born) := by
  obtain ⟨seen, hr, hl⟩ := h.iter
  have hold : ((rs.map (MRow.e enc)).toArray.filter (fun e => !seen.contains e.born)) = (left.map (MRow.e enc)).toArray := by
    rw [filter_rows rs (fun b => !seen.contains b), hl]
  have hlt : (left.map (MRow.e enc)).toArray.filter (fun e => decide (e.born < clock)) = (left.map (MRow.e enc)).toArray := by
    rw [filter_rows left (fun b => decide (b < clock))]
    congr 2
    rw [List.filter_eq_self]
    intro x hx
    exact decide_eq_true (h.since x (h.sub x hx))
  have hge : (left.map (MRow.e enc)).toArray.filter (fun e => decide (e.born ≥ clock)) = #[] := by
    rw [filter_rows left (fun b => decide (b ≥ clock))]
    have : left.filter (fun x => decide (x.born ≥ clock)) = [] := by
      rw [List.filter_eq_nil_iff]
      intro x hx
      have := h.since x (h.sub x hx)
      simp; omega
    rw [this]; rfl
  have hall : ((!seen.isEmpty && !(rs.map (MRow.e enc)).toArray.isEmpty) && (rs.map (MRow.e enc)).toArray.all (fun e => decide (e.born ≥ clock))) = false := by
    cases rs with
    | nil => simp
    | cons x rs =>
      have := h.since x (by simp)
      have hx : ¬ clock ≤ x.born := by omega
      simp [MRow.e, hx]
  cases hleft : left with
  | nil =>
    left
    refine ⟨rfl, ?_⟩
    rw [hleft] at hold hlt hge
    simp only [Instr.next, Sem.run_bind, run_getObj_iter hr, Result.andThen_ok, run_getObj_map' h.map]
    rw [hall]
    simp only [Bool.false_eq_true, if_false, hold, hlt, hge, Sem.run_bind]
    simp [choose, Sem.run, Question.forced]
  | cons y ys =>
    right
    rw [← hleft]
    have hne : (left.map (MRow.e enc)).toArray.isEmpty = false := by rw [hleft]; rfl
    have hsz : (Array.map some (left.map (MRow.e enc)).toArray).size = left.length := by simp
    have hpos : 0 < left.length := by rw [hleft]; simp
    have step : ∀ (k n : Nat), k < left.length → (∀ K : Nat → Sem Value, (choose (.mapNext left.length) >>= K).run P w = (K k).run P (w.drewN n)) →
        ∃ x ∈ left, ∃ n seen, (Instr.next (.pointer (some ⟨r, 0, none⟩)) false ty).run P w = .ok (.tuple #[.bool true, enc x.k, x.v]) (setObj (w.drewN n) r (.mapIter (some bm) clock (seen.push x.born) clock)) ∧ w.heap[r]? = some (.mapIter (some bm) clock seen clock) ∧ left = rs.filter fun x => !seen.contains x.born := by
      intro k n hk hch
      refine ⟨left[k], List.getElem_mem hk, n, seen, ?_, hr, hl⟩
      simp only [Instr.next, Sem.run_bind, run_getObj_iter hr, Result.andThen_ok, run_getObj_map' h.map]
      rw [hall]
      simp only [Bool.false_eq_true, if_false, hold, hlt, hge, Sem.run_bind, hne, Array.append_empty, Array.empty_append, hsz]
      have e := hch (fun j => match (Array.map some (left.map (MRow.e enc)).toArray)[j]? with
        | some (some e) => do
          Go.setObj r (.mapIter (some bm) clock (seen.push e.born) clock)
          pure (.tuple #[.bool true, e.key, e.val])
        | some none => pure (.tuple #[.bool false])
        | none => stuck "Next: no such candidate")
      have e2 : (Array.map some (left.map (MRow.e enc)).toArray)[k]? = some (some (MRow.e enc left[k])) := by simp [hk]
      rw [e2] at e
      rw [Sem.run_bind] at e
      refine Eq.trans ?_ (e.trans ?_)
      · rfl
      · simp only [Sem.run_bind, run_setObj_iter (w := w.drewN n) _ hr, Result.andThen_ok, Sem.run_pure]
        rfl
    by_cases h1 : left.length ≤ 1
    · exact step 0 0 hpos (fun K => by
        have hq : Question.forced (.mapNext left.length) = true := by simp [Question.forced, h1]
        show (Sem.choose (.mapNext left.length) fun n => (Sem.pure n).bind K).run P w = _
        simp only [Sem.run, hq, if_true]
        rfl)
    · refine step (w.tape w.drawn (.mapNext left.length) % left.length) 1 (Nat.mod_lt _ hpos) (fun K => ?_)
      have hq : Question.forced (.mapNext left.length) = false := by simp [Question.forced]; omega
      show (Sem.choose (.mapNext left.length) fun n => (Sem.pure n).bind K).run P w = _
      simp only [Sem.run, hq, Bool.false_eq_true, if_false]
      rfl
/-- The rows behind one that came. -/
def drop1 (left : List (MRow α)) (x : MRow α) : List (MRow α) := left.filter fun y => decide (y.born ≠ x.born)
theorem find_born : ∀ {rs : List (MRow α)} {x : MRow α}, (rs.map (·.born)).Nodup → x ∈ rs → (rs.map (MRow.e enc)).find? (fun e => e.born == x.born) = some (MRow.e enc x)
  | [], x, _, hx => by cases hx
  | y :: rs, x, hn, hx => by
    simp only [List.map_cons, List.nodup_cons] at hn
    rw [List.map_cons, List.find?_cons]
    rcases List.mem_cons.1 hx with rfl | hx
    · simp [MRow.e]
    · have : ¬ y.born = x.born := fun e => hn.1 (e ▸ List.mem_map_of_mem hx)
      have h2 : ((MRow.e enc y).born == x.born) = false := by simp [MRow.e, this]
      rw [h2]
      exact find_born hn.2 hx
theorem born_inj {rs : List (MRow α)} (hn : (rs.map (·.born)).Nodup) {x y : MRow α} (hx : x ∈ rs) (hy : y ∈ rs) (he : x.born = y.born) : x = y := by
  induction rs with
  | nil => cases hx
  | cons z rs ih =>
    simp only [List.map_cons, List.nodup_cons] at hn
    rcases List.mem_cons.1 hx with h1 | h1
    · rcases List.mem_cons.1 hy with h2 | h2
      · rw [h1, h2]
      · exact absurd (List.mem_map.2 ⟨y, h2, by rw [← h1, he]⟩) hn.1
    · rcases List.mem_cons.1 hy with h2 | h2
      · exact absurd (List.mem_map.2 ⟨x, h1, by rw [← h2, he]⟩) hn.1
      · exact ih hn.2 h1 h2
theorem Ranging.mem_drop1 {w : World} {bm r clock : Nat} {rs left : List (MRow α)} (h : Ranging enc w bm r clock rs left) {x : MRow α} (hx : x ∈ left) (y : MRow α) : y ∈ drop1 left x ↔ y ∈ left ∧ y ≠ x := by
  simp only [drop1, List.mem_filter, decide_eq_true_eq]
  constructor
  · rintro ⟨h1, h2⟩
    exact ⟨h1, fun e => h2 (by rw [e])⟩
  · rintro ⟨h1, h2⟩
    exact ⟨h1, fun e => h2 (born_inj h.born (h.sub y h1) (h.sub x hx) e)⟩
theorem drop1_length {left : List (MRow α)} {x : MRow α} (hx : x ∈ left) : (drop1 left x).length < left.length := by
  unfold drop1
  refine Nat.lt_of_le_of_ne (List.length_filter_le _ _) (fun e => ?_)
  have h1 := List.length_filter_eq_length_iff.1 e x hx
  simp at h1
theorem Ranging.stepped {w : World} {bm r clock : Nat} {rs left : List (MRow α)} (h : Ranging enc w bm r clock rs left) {x : MRow α} (hx : x ∈ left) {n : Nat} {seen : Array Nat}
    (hr : w.heap[r]? = some (.mapIter (some bm) clock seen clock)) (hl : left = rs.filter fun x => !seen.contains x.born) (P : Program) :
    Ranging enc (setObj (w.drewN n) r (.mapIter (some bm) clock (seen.push x.born) clock)) bm r clock rs (drop1 left x) ∧
    (Instr.entry (.pointer (some ⟨r, 0, none⟩))).run P (setObj (w.drewN n) r (.mapIter (some bm) clock (seen.push x.born) clock)) = .ok (.tuple #[enc x.k, x.v]) (setObj (w.drewN n) r (.mapIter (some bm) clock (seen.push x.born) clock)) := by
  have hne : bm ≠ r := fun e => by have a := h.map; rw [e, hr] at a; cases a
  have h1 : (setObj (w.drewN n) r (.mapIter (some bm) clock (seen.push x.born) clock)).heap[r]? = some (.mapIter (some bm) clock (seen.push x.born) clock) := heap_setObj _ _ _ (lt_of (w := w) hr)
  have h2 : (setObj (w.drewN n) r (.mapIter (some bm) clock (seen.push x.born) clock)).heap[bm]? = some (.map (rs.map (MRow.e enc)).toArray clock) := (heap_setObj_ne _ _ _ _ hne).trans h.map
  refine ⟨⟨h2, ⟨_, h1, ?_⟩, h.since, h.born⟩, ?_⟩
  · rw [drop1, hl, List.filter_filter]
    refine List.filter_congr fun y _ => ?_
    by_cases e : y.born = x.born <;> simp [e]
  · have hc : (seen.push x.born).back? = some x.born := by simp
    have hf := find_born (enc := enc) h.born (h.sub x hx)
    simp only [Instr.entry, Sem.run_bind, run_getObj_iter h1, Result.andThen_ok, run_getObj_map' h2, hc]
    have hf2 : (rs.map (MRow.e enc)).toArray.find? (fun e => e.born == x.born) = some (MRow.e enc x) := by rw [List.find?_toArray]; exact hf
    simp [hf2, MRow.e]
/-- The walk's law at a step. -/
theorem wpList_next_rows {P : Program} {ops : Array Oper} {rest : List Oper} {o : Oper} {a : Act} {w : World} {Q : Exit → Act → World → Prop} (hg : o.guard = none) (it : Operand) (hop : o.op = Op.next it false)
    {bm r clock : Nat} {rs left : List (MRow α)} (hit : a.eval it = .pointer (some ⟨r, 0, none⟩)) (h : Ranging enc w bm r clock rs left)
    (hDone : left = [] → wpList P ops Q rest (a.put o.dst (.tuple #[.bool false])) w)
    (hMore : ∀ x ∈ left, ∀ (n : Nat) (seen : Array Nat), Ranging enc (setObj (w.drewN n) r (.mapIter (some bm) clock (seen.push x.born) clock)) bm r clock rs (drop1 left x) →
      (Instr.entry (.pointer (some ⟨r, 0, none⟩))).run P (setObj (w.drewN n) r (.mapIter (some bm) clock (seen.push x.born) clock)) = .ok (.tuple #[enc x.k, x.v]) (setObj (w.drewN n) r (.mapIter (some bm) clock (seen.push x.born) clock)) →
      wpList P ops Q rest (a.put o.dst (.tuple #[.bool true, enc x.k, x.v])) (setObj (w.drewN n) r (.mapIter (some bm) clock (seen.push x.born) clock))) : wpList P ops Q (o :: rest) a w := by
  refine wpList_plain hg fun K hK => ?_
  unfold Oper.wp execOp
  rcases h.next (P := P) o.type with ⟨h0, hrun⟩ | ⟨x, hx, n, seen, hrun, hr, hl⟩
  · simp only [hop, hit, Sem.run_bind, hrun, Result.andThen_ok, Sem.run_pure]
    exact hK _ _ (hDone h0)
  · obtain ⟨h1, h2⟩ := h.stepped hx hr hl P (n := n)
    simp only [hop, hit, Sem.run_bind, hrun, Result.andThen_ok, Sem.run_pure]
    exact hK _ _ (hMore x hx n seen h1 h2)
end
end Go.Proofs.Ythbdlfkdemjpoaa
