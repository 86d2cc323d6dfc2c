/- What a crash and a flush make of the sectors that last. No condition. -/
import Derived.Test.YthbdlfkdemjpoaaS6
namespace Go.Proofs.Ythbdlfkdemjpoaa
open Go.RowKit Go.Maps
attribute [local go_sem ↓] Go.wp_at_zero Go.wp_at_succ

theorem DiskMem.rowlt {w : World} {p bl bm clock : Nat} {S : Nat → Prop} {D : DS} {rs : List (MRow Int)} (h : DiskMem w p S D bl bm clock rs) : ∀ r ∈ rs, ∀ k, r.v.ownBlock = some k → k < w.heap.size := by
  intro r hr k hk
  obtain ⟨j, a, b, c, g2, n2, cap2, d, e, f⟩ := h.rows r hr
  rcases h.keys j with ⟨h0, _⟩ | ⟨h0, g3, cap3, hf, ho3⟩
  · exact absurd h0 c
  · have := mfind_of_mem h.nodup hr
    rw [a, hf] at this
    injection this with this
    rw [← this] at hk
    exact (ho3.lt k hk).2
theorem DiskAt.tight {w : World} {p : Nat} {S : Nat → Prop} {D : DS} (h : DiskAt w p S D) : DiskAt w p (fun k => S k ∧ k < w.heap.size) D := by
  obtain ⟨ho, bl, bm, clock, rs, h⟩ := h
  refine ⟨ho, bl, bm, clock, rs, h.own, h.lasts, h.map, h.keys, fun r hr => ?_, h.nodup, h.apart, h.born, h.since, h.few, ⟨h.sp, lt_of h.own⟩, ⟨h.sl, lt_of h.lasts⟩, ⟨h.sm, lt_of h.map⟩⟩
  obtain ⟨j, a, b, c, g, n, cap, d, e, f⟩ := h.rows r hr
  exact ⟨j, a, b, c, g, n, cap, d, ⟨e, h.rowlt r hr g (by rw [d]; rfl)⟩, f⟩

theorem flat_set {l : List Sec} (h : ∀ s ∈ l, s.length = 64) (i : Nat) (hi : i < l.length) (s : Sec) : flat (l.set i s) = (flat l).take (i * 64) ++ secV s ++ (flat l).drop (i * 64 + 64) := by
  induction l generalizing i with
  | nil => simp at hi
  | cons x l ih =>
    have hx := h x (by simp)
    have hxv : (secV x).length = 64 := by rw [secV_length, hx]
    cases i with
    | zero =>
      simp only [List.set_cons_zero, flat, List.flatMap_cons, Nat.zero_mul, List.take_zero, List.nil_append, Nat.zero_add]
      rw [List.drop_append_of_le_length (by omega), List.drop_of_length_le (by omega)]
      simp
    | succ i =>
      have := ih (fun y hy => h y (by simp [hy])) i (by simpa using hi)
      simp only [flat] at this
      simp only [List.set_cons_succ, flat, List.flatMap_cons, this]
      have e1 : (i + 1) * 64 = (secV x).length + i * 64 := by rw [hxv]; omega
      rw [e1, List.take_append, List.drop_append]
      have e2 : (secV x).length + i * 64 + 64 - (secV x).length = i * 64 + 64 := by omega
      have e3 : (secV x).length + i * 64 - (secV x).length = i * 64 := by omega
      rw [e2, e3, List.take_of_length_le (l := secV x) (by omega), List.drop_of_length_le (l := secV x) (by omega)]
      simp
theorem setCells_block (b : Nat) (t : TypeId) : ∀ (vs : List Value) (o : Nat) (w : World) (cs : Array Value), w.heap[b]? = some (.cells cs t (0, 0)) → o + vs.length ≤ cs.size →
    (w.setCells b o vs).heap[b]? = some (.cells (cs.toList.take o ++ vs ++ cs.toList.drop (o + vs.length)).toArray t (0, 0))
  | [], o, w, cs, h, _ => by
    simp only [World.setCells, List.length_nil, Nat.add_zero, List.append_nil, List.take_append_drop]
    exact h
  | v :: r, o, w, cs, h, ho => by
    simp only [List.length_cons] at ho
    rw [World.setCells]
    have h1 : (w.setCell ⟨b, o, none⟩ v).heap[b]? = some (.cells (cs.setIfInBounds o v) t (0, 0)) := by
      simp only [World.setCell, Array.getElem?_modify, if_true, h, Option.map_some]; rfl
    rw [setCells_block b t r (o + 1) _ _ h1 (by simp; omega)]
    congr 2
    rw [Array.toList_setIfInBounds]
    have hl : o < cs.toList.length := by simp; omega
    rw [List.take_set, List.take_succ_eq_append_getElem hl, List.set_append_right _ _ (by simp; omega), List.drop_set_of_lt (by omega)]
    have hm : min o cs.size = o := by omega
    have h2 : o + 1 + r.length = o + (r.length + 1) := by omega
    simp [hm, h2]

/-- One sector that lasts is another. -/
theorem DiskMem.last {w : World} {p bl bm clock : Nat} {S : Nat → Prop} {D : DS} {rs : List (MRow Int)} (h : DiskMem w p S D bl bm clock rs) (hok : D.Ok) (i : Nat) (hi : i < D.lasts.length) (s : Sec) (hs : s.length = 64) :
    DiskMem (w.setCells bl (i * 64) (secV s)) p S { D with lasts := D.lasts.set i s } bl bm clock rs ∧ w.there bl (i * 64) 64 := by
  have hfl := flat_length hok.wide
  have hiu : (i + 1) * 64 ≤ D.lasts.length * 64 := Nat.mul_le_mul_right _ hi
  have hsz : i * 64 + (secV s).length ≤ (flat D.lasts).toArray.size := by
    rw [List.size_toArray, hfl, secV_length, hs]; omega
  have hpb : p ≠ bl := fun e => by have a := h.lasts; rw [← e, h.own] at a; injection a with a; injection a with _ a; exact absurd a (by decide)
  have hmb : bm ≠ bl := fun e => by have a := h.lasts; rw [← e, h.map] at a; cases a
  refine ⟨⟨?_, ?_, ?_, fun j => ?_, fun r hr => ?_, h.nodup, h.apart, h.born, h.since, h.few, h.sp, h.sl, h.sm⟩, fun j hj => ?_⟩
  · rw [heap_setCells _ _ _ _ _ hpb]
    simpa using h.own
  · rw [setCells_block bl _ _ _ _ _ h.lasts hsz]
    have := flat_set hok.wide i hi s
    rw [secV_length, hs, List.toList_toArray, this]
  · rw [heap_setCells _ _ _ _ _ hmb]; exact h.map
  · rcases h.keys j with hk | ⟨h0, g, cap, hf, ho⟩
    · exact .inl hk
    · refine .inr ⟨h0, g, cap, hf, ho.1, ?_⟩
      rcases ho.2 with h1 | ⟨g', cap', cur, hv, h1, h2, h3⟩
      · exact .inl h1
      · cases hv
        obtain ⟨r, hr, _, hrv⟩ := mfind_some hf
        obtain ⟨_, _, _, _, g2, n2, cap2, hv2, _, hb⟩ := h.rows r hr
        rw [hrv] at hv2
        cases hv2
        exact .inr ⟨g, cap, cur, rfl, h1, by rw [heap_setCells _ _ _ _ _ hb]; exact h2, h3⟩
  · obtain ⟨j, a, b, c, rest⟩ := h.rows r hr
    exact ⟨j, a, by simpa using b, c, rest⟩
  · rw [cell_of h.lasts, frozen_of h.lasts]
    have : i * 64 + j < (flat D.lasts).length := by rw [hfl]; omega
    simp [this]
theorem DS.last_ok {D : DS} (h : D.Ok) (i : Nat) (s : Sec) (hs : s.length = 64) : ({ D with lasts := D.lasts.set i s } : DS).Ok :=
  ⟨by simpa using h.some, by simpa using h.most, fun x hx => by
    rcases List.mem_or_eq_of_mem_set hx with h1 | h1
    · exact h.wide x h1
    · rw [h1]; exact hs, h.wide', fun i hi => by simpa using h.inside i hi, h.fuse⟩
/-- Nothing waits any more. -/
theorem DiskMem.clear {w : World} {p bl bm clock : Nat} {S : Nat → Prop} {D : DS} {rs : List (MRow Int)} (h : DiskMem w p S D bl bm clock rs) :
    DiskMem (setObj w bm (.map #[] clock)) p S { D with waits := fun _ => [] } bl bm clock [] := by
  have hpm : p ≠ bm := fun e => by have a := h.own; rw [e, h.map] at a; cases a
  have hlm : bl ≠ bm := fun e => by have a := h.lasts; rw [e, h.map] at a; cases a
  exact ⟨by rw [heap_setObj_ne _ _ _ _ hpm]; exact h.own, by rw [heap_setObj_ne _ _ _ _ hlm]; exact h.lasts, heap_setObj _ _ _ (lt_of h.map), fun i => .inl ⟨rfl, rfl⟩, by simp, by simp, by simp, by simp, by simp, by simp, h.sp, h.sl, h.sm⟩
theorem DS.clear_ok {D : DS} (h : D.Ok) : ({ D with waits := fun _ => [] } : DS).Ok := ⟨h.some, h.most, h.wide, fun _ s hs => by simp at hs, fun i hi => by simp at hi, h.fuse⟩
theorem run_clear_map {w : World} {b clock : Nat} {es : Array MapEntry} (h : w.heap[b]? = some (.map es clock)) (ty : TypeId) :
    (Builtin.clear_ #[93] ty #[.map (some b)]).run Try.prog w = .ok (.tuple #[]) (setObj w b (.map #[] clock)) := by
  have hu := Try.underlying93
  simp [Builtin.clear_, run_underlying hu, run_getObj_map' h, run_setObj_map' _ h]
end Go.Proofs.Ythbdlfkdemjpoaa
