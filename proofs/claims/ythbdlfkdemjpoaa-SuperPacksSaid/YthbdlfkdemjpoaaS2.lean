/- What the sector package's Read does. No condition. -/
import Derived.Test.YthbdlfkdemjpoaaS1
namespace Go.Proofs.Ythbdlfkdemjpoaa
open Go.RowKit Go.Maps

/-- The walk stands at this very operation. -/
theorem gate_op {P : Program} {ops : Array Oper} {Q : Exit → Act → World → Prop} {rest : List Oper} {o : Oper} {a : Act} {w : World} (x : Op) (_ : o.op = x) (h : wpList P ops Q (o :: rest) a w) : wpList P ops Q (o :: rest) a w := h
theorem wpList_alloc_of {P : Program} {ops : Array Oper} {rest : List Oper} {o : Oper} {a : Act} {w w' : World} {Q : Exit → Act → World → Prop} (hg : o.guard = none) (t : TypeId) (ho : o.op = .alloc t) (v : Value)
    (hr : (Instr.alloc t true (.tuple #[])).run P w = .ok v w') (h : wpList P ops Q rest (a.put o.dst v) w') : wpList P ops Q (o :: rest) a w :=
  wpList_plain hg fun K hK => by
    unfold Oper.wp execOp
    simp only [ho, Sem.run_bind, Sem.run_pure, hr, Result.andThen_ok]
    exact hK _ _ h
def zeroA : Array Value := (secV zeroSec).toArray
theorem run_alloc_sec (W : World) : (Instr.alloc 97 true (.tuple #[])).run Try.prog W = .ok (.pointer (some ⟨W.heap.size, 0, none⟩)) (W.alloc (.cells zeroA 97)) := by
  have h : (zeroValue 97).run Try.prog W = .ok (.agg zeroA) W := by kernel_rfl
  simp only [Instr.alloc, Sem.run_bind, h, Result.andThen_ok]
  rfl
theorem setCells_fresh (w : World) (cs : Array Value) (t : TypeId) (vs : List Value) (h : vs.length = cs.size) : (w.alloc (.cells cs t)).setCells w.heap.size 0 vs = w.alloc (.cells vs.toArray t) := by
  have key : ∀ (vs : List Value) (o : Nat) (cs : Array Value), o + vs.length = cs.size → (w.alloc (.cells cs t)).setCells w.heap.size o vs = w.alloc (.cells (cs.toList.take o ++ vs).toArray t) := by
    intro vs
    induction vs with
    | nil =>
      intro o cs ho
      simp only [World.setCells]
      congr 2
      rw [List.append_nil, List.take_of_length_le (by simp at ho; simp; omega)]
    | cons v r ih =>
      intro o cs ho
      simp only [List.length_cons] at ho
      rw [World.setCells]
      have e : (w.alloc (.cells cs t)).setCell ⟨w.heap.size, o, none⟩ v = w.alloc (.cells (cs.setIfInBounds o v) t) := by
        simp only [World.setCell, World.alloc]
        congr 1
        apply Array.ext_getElem?
        intro k
        simp only [Array.getElem?_modify, Array.getElem?_push]
        by_cases hk : w.heap.size = k
        · subst hk; simp
        · rw [if_neg hk, if_neg (by omega), if_neg (by omega)]
      rw [e, ih (o + 1) _ (by simp; omega)]
      congr 2
      rw [Array.toList_setIfInBounds]
      have hl : o < cs.toList.length := by simp; omega
      rw [List.take_set, List.take_succ_eq_append_getElem hl, List.set_append_right _ _ (by simp; omega)]
      simp [Nat.min_eq_left (Nat.le_of_lt (by simpa using hl) : o ≤ cs.size)]
  have := key vs 0 cs (by simpa using h)
  simpa using this
theorem lookup_zero (W : World) : (zeroValue 92).run Try.prog W = .ok (.slice none 0 0) W := by kernel_rfl

def DS.read (D : DS) (i : Nat) : Sec := ((D.waits i).getLast?).getD (D.lasts.getD i [])
theorem DS.read_length {D : DS} (h : D.Ok) (i : Nat) (hi : i < D.lasts.length) : (D.read i).length = 64 := by
  unfold DS.read
  cases hl : (D.waits i).getLast? with
  | some s => exact h.wide' i s (List.mem_of_getLast? hl)
  | none =>
    have : D.lasts.getD i [] = D.lasts[i] := by rw [List.getD_eq_getElem?_getD, List.getElem?_eq_getElem hi]; rfl
    show (D.lasts.getD i []).length = 64
    rw [this]; exact h.wide _ (List.getElem_mem hi)
theorem range_flat {w : World} {b e : Nat} {cs : Array Value} {fr : Nat × Nat} {l : List Sec} (h : w.heap[b]? = some (.cells cs e fr)) (hw : ∀ s ∈ l, s.length = 64) (ht : cs.toList.take (l.length * 64) = flat l) (i : Nat) (hi : i < l.length) : w.rangeAt b (i * 64) (secV l[i]) := by
  intro j v hv
  have hj : j < 64 := by have := (List.getElem?_eq_some_iff.1 hv).1; rwa [secV_length, hw _ (List.getElem_mem hi)] at this
  rw [cell_of h, ← Array.getElem?_toList]
  have h1 := flat_get hw i j hi hj
  rw [← ht, List.getElem?_take, if_pos (by have : (i + 1) * 64 ≤ l.length * 64 := Nat.mul_le_mul_right _ hi; omega)] at h1
  rw [h1]
  have h2 : j < (l[i]).length := by rw [hw _ (List.getElem_mem hi)]; exact hj
  simp [secV, List.getElem?_eq_getElem h2] at hv
  rw [← hv]

set_option maxHeartbeats 400000 in
theorem read_nil (i : Int) (w : World) : Calls Try.prog 31 #[.pointer none, .int .i64 i] w fun e w' => e = .returned (.tuple #[.slice none 0 0, .int .i64 1]) ∧ w = w' := by
  by_cases h : i < 0
  · go_enter Try.func31, Try.ntmps31
    go_wp2_with (go_at_call 42; refine (len_nil _).mono ?_; rintro e w' ⟨rfl, rfl⟩)
    go_ret2
    exact ⟨rfl, rfl⟩
  · have h2 : 0 ≤ i := by omega
    clear h
    go_enter Try.func31, Try.ntmps31
    go_wp2_with (go_at_call 42; refine (len_nil _).mono ?_; rintro e w' ⟨rfl, rfl⟩)
    go_ret2
    exact ⟨rfl, rfl⟩
set_option maxHeartbeats 400000 in
theorem read_out (p : Nat) (S : Nat → Prop) (D : DS) (i : Int) (w : World) (h : DiskAt w p S D) (hi : i < 0 ∨ (D.lasts.length : Int) ≤ i) :
    Calls Try.prog 31 #[.pointer (some ⟨p, 0, none⟩), .int .i64 i] w fun e w' => e = .returned (.tuple #[.slice none 0 0, .int .i64 1]) ∧ w = w' := by
  by_cases h0 : i < 0
  · clear hi
    go_enter Try.func31, Try.ntmps31
    go_wp2_with (go_at_call 42; refine (len_any p S D _ h).mono ?_; rintro e w' ⟨rfl, rfl⟩)
    go_ret2
    exact ⟨rfl, rfl⟩
  · have h2 : 0 ≤ i := by omega
    have h3 : (D.lasts.length : Int) ≤ i := by omega
    clear h0 hi
    go_enter Try.func31, Try.ntmps31
    go_wp2_with (go_at_call 42; refine (len_any p S D _ h).mono ?_; rintro e w' ⟨rfl, rfl⟩)
    go_ret2
    exact ⟨rfl, rfl⟩

set_option maxRecDepth 100000 in
set_option maxHeartbeats 1000000 in
theorem read_core (p bl bm cap0 clock : Nat) (rs : List (MRow Int)) (cs : Array Value) (D : DS) (i : Nat) (w : World) (hok : D.Ok) (hi : i < D.lasts.length) (c0 : w.cell? ⟨p, 0, none⟩ = some (.slice (some ⟨bl, 0, none⟩) D.lasts.length cap0)) (c1 : w.cell? ⟨p, 1, none⟩ = some (.map (some bm)))
    (hlasts : w.heap[bl]? = some (.cells cs 97 (0, 0))) (htake : cs.toList.take (D.lasts.length * 64) = flat D.lasts) (hmap : w.heap[bm]? = some (.map (rs.map (MRow.e (Value.int .i64))).toArray clock))
    (hkeys : (D.waits i = [] ∧ mfind rs (i : Int) = none) ∨ (D.waits i ≠ [] ∧ ∃ g cap, mfind rs (i : Int) = some (.slice (some ⟨g, 0, none⟩) (D.waits i).length cap) ∧ w.ownsRow 0 97 64 (.slice (some ⟨g, 0, none⟩) (D.waits i).length cap) (D.waits i).length (flat (D.waits i)))) :
    Calls Try.prog 31 #[.pointer (some ⟨p, 0, none⟩), .int .i64 i] w fun e w' => e = .returned (.tuple #[.slice (some ⟨w.heap.size, 0, none⟩) 64 64, .int .i64 0]) ∧ w' = w.alloc (.cells (secV (D.read i)).toArray 97) := by
  have hlen := DS.read_length hok i hi
  have hlt : p < w.heap.size := World.block_lt_of_cell? w _ c0
  have hr := range_flat hlasts hok.wide htake i hi
  have hsl : D.lasts[i].length = 64 := hok.wide _ (List.getElem_mem hi)
  obtain ⟨s, hs⟩ : ∃ s, s = D.lasts[i] := ⟨_, rfl⟩
  have HS := Lib.hid hs
  rw [← hs] at hr hsl
  clear hs
  have hlk := run_lookup (P := Try.prog) (w := w.alloc (.cells (secV s).toArray 97)) (t := 93) Try.underlying93 Try.underlying3 (int_keys .i64) rs (by rw [Below.heap_alloc _ _ _ (lt_of hmap)]; exact hmap) (lookup_zero _) (i : Int) false
  have hms := (hok.most)
  have hi64 : (Try.prog.info? 97).map (·.size) = some (secV s).length := by rw [secV_length, hsl]; kernel_rfl
  have hth : (w.alloc (.cells zeroA 97)).there w.heap.size 0 (secV s).toArray.size := fun j hj => by
    have hz : j < zeroA.size := by rw [List.size_toArray, secV_length, hsl] at hj; exact hj
    rw [Nat.zero_add, cell_of (heap_alloc_new w _), frozen_of (heap_alloc_new w _)]
    simp [hz]
  have hfr := setCells_fresh w zeroA 97 (secV s) (by rw [secV_length, hsl]; rfl)
  have HF := Lib.hid hfr; have HT := Lib.hid hth; have HI := Lib.hid hi64
  clear hfr hth hi64
  have HO := Lib.hid hok; have HR := Lib.hid hr
  have HSL := Lib.hid hsl; have HLEN := Lib.hid hlen
  clear hlasts htake hmap hok hr hsl hlen
  have q1 : (0 : Int) ≤ (i : Int) := by omega
  have q2 : (i : Int) < (D.lasts.length : Int) := by omega
  rcases hkeys with ⟨h0, hf⟩ | ⟨h0, g, cap, hf, how⟩
  · rw [hf] at hlk
    have HE : Hid (D.read i = s) := by show _ = _; rw [HS.out]; unfold DS.read; rw [h0, List.getD_eq_getElem?_getD, List.getElem?_eq_getElem hi]; rfl
    simp only [Bool.false_eq_true, if_false, Option.getD_none] at hlk
    clear h0 hf
    go_enter Try.func31, Try.ntmps31
    go_wp2_with (first | (go_at_call 42; refine (len_core p bl _ cap0 _ (by assumption)).mono ?_; rintro e w' ⟨rfl, rfl⟩) | ((with_reducible refine gate_op (.load 97 (.tmp 21)) rfl ?_); refine wpList_load_mid rfl 97 (.tmp 21) rfl bl (i * 64) rfl (secV s) _ HR.out Try.underlying97 rfl HI.out ?_) | ((with_reducible refine gate_op (.alloc 97) rfl ?_); refine wpList_alloc_of rfl 97 rfl _ (run_alloc_sec w) ?_) | ((with_reducible refine gate_op (.store 97 (.tmp 6) (.tmp 22)) rfl ?_); refine wpList_store_mid rfl 97 (.tmp 6) (.tmp 22) rfl w.heap.size 0 (secV s).toArray rfl rfl HT.out (by rw [List.size_toArray]; exact HI.out) (all_oneCell_toArray fun v hv => secV_one hv) ?_; rw [List.toList_toArray, HF.out]))
    go_ret2
    exact ⟨rfl, by rw [HE.out]⟩
  · rw [hf] at hlk
    simp only [Bool.false_eq_true, if_false, Option.getD_some] at hlk
    obtain ⟨l, hl⟩ : ∃ l, l = D.waits i := ⟨_, rfl⟩
    rw [← hl] at hlk how h0
    have hpos : 0 < l.length := List.length_pos_iff.2 h0
    obtain ⟨cur, hcur, hcap, ht⟩ : ∃ cur, w.heap[g]? = some (.cells cur 97 (0, 0)) ∧ l.length ≤ cap ∧ cur.toList.take (l.length * 64) = flat l := by
      rcases how.2 with ⟨h, _⟩ | ⟨g', cap', cur, hv, _, h2, h3, h4, h5, h6⟩
      · cases h
      · cases hv; exact ⟨cur, h2, h3, h6⟩
    have hw' : ∀ s ∈ l, s.length = 64 := fun s hs => HO.out.wide' i s (hl ▸ hs)
    obtain ⟨s2, hs2⟩ : ∃ s2, s2 = l[l.length - 1] := ⟨_, rfl⟩
    have HE : Hid (D.read i = s2) := by
      show _ = _
      unfold DS.read
      rw [← hl, List.getLast?_eq_getElem?, List.getElem?_eq_getElem (by omega), hs2]; rfl
    have hr2 := range_flat hcur hw' ht (l.length - 1) (by omega)
    rw [← hs2] at hr2
    have hs2l : s2.length = 64 := by rw [hs2]; exact hw' _ (List.getElem_mem _)
    have HR2 := Lib.hid (World.rangeAt_alloc hr2 (.cells (secV s).toArray 97))
    have HI2 : Hid ((Try.prog.info? 97).map (·.size) = some (secV s2).length) := by show _ = _; rw [secV_length, hs2l]; kernel_rfl
    have HT2 : Hid ((w.alloc (.cells (secV s).toArray 97)).there w.heap.size 0 (secV s2).toArray.size) := fun j hj => by
      have hz : j < (secV s).length := by rw [List.size_toArray, secV_length] at hj; rw [secV_length, HSL.out, ← hs2l]; exact hj
      rw [Nat.zero_add, cell_of (heap_alloc_new w _), frozen_of (heap_alloc_new w _)]
      simp [hz]
    have HF2 := Lib.hid (setCells_fresh w (secV s).toArray 97 (secV s2) (by rw [List.size_toArray, secV_length, secV_length, HSL.out, hs2l]))
    have q3 : (0 : Int) < (l.length : Int) := by omega
    have q4 : (l.length : Int) ≤ 9223372036854775807 := by
      have : cap ≤ maxLen := by
        rcases how.2 with ⟨h, _⟩ | ⟨g', cap', cur, hv, _, h2, h3, h4, h5, h6⟩
        · cases h
        · cases hv; exact h4
      unfold maxLen at this; omega
    clear h0 hf how hcur ht hw' hl hs2 hr2 hs2l
    go_enter Try.func31, Try.ntmps31
    go_wp2_with (first | (go_at_call 42; refine (len_core p bl _ cap0 _ (by assumption)).mono ?_; rintro e w' ⟨rfl, rfl⟩) | ((with_reducible refine gate_op (.load 97 (.tmp 21)) rfl ?_); refine wpList_load_mid rfl 97 (.tmp 21) rfl bl (i * 64) rfl (secV s) _ HR.out Try.underlying97 rfl HI.out ?_) | ((with_reducible refine gate_op (.alloc 97) rfl ?_); refine wpList_alloc_of rfl 97 rfl _ (run_alloc_sec w) ?_) | ((with_reducible refine gate_op (.store 97 (.tmp 6) (.tmp 22)) rfl ?_); refine wpList_store_mid rfl 97 (.tmp 6) (.tmp 22) rfl w.heap.size 0 (secV s).toArray rfl rfl HT.out (by rw [List.size_toArray]; exact HI.out) (all_oneCell_toArray fun v hv => secV_one hv) ?_; rw [List.toList_toArray, HF.out]) | ((with_reducible refine gate_op (.load 97 (.tmp 36)) rfl ?_); refine wpList_load_mid rfl 97 (.tmp 36) rfl g ((l.length - 1) * 64) rfl (secV s2) _ HR2.out Try.underlying97 rfl HI2.out ?_) | ((with_reducible refine gate_op (.store 97 (.tmp 6) (.tmp 37)) rfl ?_); refine wpList_store_mid rfl 97 (.tmp 6) (.tmp 37) rfl w.heap.size 0 (secV s2).toArray rfl rfl HT2.out (by rw [List.size_toArray]; exact HI2.out) (all_oneCell_toArray fun v hv => secV_one hv) ?_; rw [List.toList_toArray, HF2.out]))
    go_ret2
    exact ⟨rfl, by rw [HE.out]⟩
theorem read_in (p : Nat) (S : Nat → Prop) (D : DS) (i : Nat) (w : World) (h : DiskAt w p S D) (hi : i < D.lasts.length) :
    Calls Try.prog 31 #[.pointer (some ⟨p, 0, none⟩), .int .i64 i] w fun e w' => e = .returned (.tuple #[.slice (some ⟨w.heap.size, 0, none⟩) 64 64, .int .i64 0]) ∧ w' = w.alloc (.cells (secV (D.read i)).toArray 97) := by
  have hok := h.ok
  obtain ⟨_, bl, bm, clock, rs, hm⟩ := h
  exact read_core p bl bm _ clock rs _ D i w hok hi (cell_of hm.own 0) (cell_of hm.own 1) hm.lasts (by rw [List.toList_toArray, ← flat_length hok.wide, List.take_length]) hm.map (hm.keys i)
end Go.Proofs.Ythbdlfkdemjpoaa
