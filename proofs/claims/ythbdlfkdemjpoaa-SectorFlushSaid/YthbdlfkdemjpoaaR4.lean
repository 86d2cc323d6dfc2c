/- What the second reference's Flush does. No condition. -/
import Derived.Test.YthbdlfkdemjpoaaR3b
import Derived.StillTailTactics
namespace Go.Proofs.Ythbdlfkdemjpoaa
open Go.RowKit Go.Maps

theorem rk_writeA {B : Nat} (q : Nat) (T : Nat → Prop) (D : DS) (i : Int) (A : Option Addr) (l : List UInt8) (c : Nat) (w : World) (h : Rk B w q T D) (hA : Bytes w A l) (hAT : l ≠ [] → ∀ b o, A = some ⟨b, o, none⟩ → ¬ T b) (hroom : ∀ i, (D.waits i).length ≤ 1000000) :
    Calls Try.prog 24 #[.pointer (some ⟨q, 0, none⟩), .int .i64 i, .slice A l.length c] w fun e w' => ∃ T', e = .returned (.int .i64 (D.writeE i l)) ∧ Rk B w' q T' (D.writeA i l) ∧ Kept T w w' ∧ ∀ k, T' k → T k ∨ w.heap.size ≤ k := by
  unfold DS.writeE DS.writeA
  by_cases hf : D.fuse = 0
  · refine (rwrite_dead q T D i A l.length c w h hf).mono ?_
    rintro e w' ⟨rfl, rfl⟩
    exact ⟨T, by simp [hf], by simpa [hf] using h, Kept.refl _ _, fun k hk => .inl hk⟩
  · by_cases hb : D.bad i l
    · refine (rwrite_bad q T D i A l c w h hf hb).mono ?_
      rintro e w' ⟨rfl, rfl⟩
      exact ⟨T, by simp [hf, hb], by simpa [hf, hb] using h, Kept.refl _ _, fun k hk => .inl hk⟩
    · have h1 : 0 ≤ i := by unfold DS.bad at hb; omega
      have h2 : i.toNat < D.lasts.length := by unfold DS.bad at hb; omega
      have h3 : l.length ≤ 64 := by unfold DS.bad at hb; omega
      have e1 : ((i.toNat : Nat) : Int) = i := by omega
      have := rwrite_ok q T D i.toNat A l c w h hf h2 hA hAT h3 (hroom _)
      rw [e1] at this
      refine this.mono ?_
      rintro e w' ⟨T', rfl, hd, hk, hs⟩
      exact ⟨T', by simp [hf, hb], by simpa [hf, hb] using hd, hk, hs⟩

/-- The first k sectors are flushed. -/
def DS.flushK (D : DS) (k : Nat) : DS := ⟨(List.range D.lasts.length).map (fun i => if i < k then D.read i else D.lasts.getD i []), fun i => if i < k then [] else D.waits i, D.fuse⟩
theorem DS.flushK_zero (D : DS) : D.flushK 0 = D := by
  obtain ⟨L, ws, f⟩ := D
  simp only [DS.flushK, Nat.not_lt_zero, if_false, DS.mk.injEq, and_true]
  apply List.ext_getElem
  · simp
  · intro j h1 h2; simp [h2]
theorem DS.flushK_all {D : DS} (h : D.Ok) : D.flushK D.lasts.length = { lasts := (List.range D.lasts.length).map D.read, waits := fun _ => [], fuse := D.fuse } := by
  simp only [DS.flushK, DS.mk.injEq, and_true]
  constructor
  · refine List.map_congr_left fun i hi => ?_
    rw [if_pos (by simpa using hi)]
  · funext i
    split
    · rfl
    · rename_i h1
      exact Classical.byContradiction fun h2 => h1 (h.inside i h2)
theorem DS.flushK_length (D : DS) (k : Nat) : (D.flushK k).lasts.length = D.lasts.length := by simp [DS.flushK]
theorem DS.flushK_vers (D : DS) (k i : Nat) (hi : i < D.lasts.length) : (D.flushK k).vers i = if i < k then [D.read i] else D.vers i := by
  unfold DS.vers DS.flushK
  simp only [List.getD_eq_getElem?_getD, List.getElem?_map, List.getElem?_range hi, Option.map_some, Option.getD_some]
  split <;> rfl

set_option maxHeartbeats 1000000 in
theorem rflush_dead {B : Nat} (q : Nat) (T : Nat → Prop) (D : DS) (w : World) (h : Rk B w q T D) (hf : D.fuse = 0) :
    Calls Try.prog 65 #[.pointer (some ⟨q, 0, none⟩)] w fun e w' => e = .returned (.int .i64 6) ∧ w = w' := by
  obtain ⟨bo, cap, outer, gs, hm⟩ := h.mem
  have c1 := cell_of hm.own 1
  simp only [List.getElem?_toArray, List.getElem?_cons_succ, List.getElem?_cons_zero] at c1
  rw [hf] at c1
  clear h hm hf
  go_enter Try.func65, Try.ntmps65
  go_wp2_with fail
  go_ret
  exact ⟨rfl, rfl⟩

/-- One sector flushed, in memory. -/
theorem RefMem.flushOne {W : World} {q bo cap : Nat} {T : Nat → Prop} {D : DS} {outer : Array Value} {gs : Nat → Nat} {k g o rc M : Nat} (h : RefMem W q T (D.flushK k) bo cap outer gs) (hk : k < D.lasts.length) (hM : M = (D.waits k).length) (hg : g = gs k)
    (hrow : RowAt W g (.slice (some ⟨g, o, none⟩) (M + 1) rc) (D.vers k)) : RefMem (W.setCell ⟨bo, k, none⟩ (.slice (some ⟨g, o + M, none⟩) 1 (rc - M))) q T (D.flushK (k + 1)) bo cap (outer.setIfInBounds k (.slice (some ⟨g, o + M, none⟩) 1 (rc - M))) (fun j => if j = k then g else gs j) := by
  obtain ⟨o', rc', cs, he, ho, hle, hsz, hget⟩ := hrow
  simp only [Value.slice.injEq, Option.some.injEq, Addr.mk.injEq, and_true, true_and] at he
  obtain ⟨rfl, _, rfl⟩ := he
  have hv : (D.flushK (k + 1)).vers k = [D.read k] := by rw [D.flushK_vers _ _ hk, if_pos (by omega)]
  have h1 := h.exchange (D' := D.flushK (k + 1)) (w1 := W) (g' := g) (row' := .slice (some ⟨g, o + M, none⟩) 1 (rc - M)) k (by rw [D.flushK_length]; exact hk) (fun _ _ _ => rfl) (by
    rw [hv]
    refine ⟨o + M, rc - M, cs, rfl, ho, by rw [D.vers_length] at hle; simp; omega, by rw [D.vers_length] at hle; omega, fun j hj => ?_⟩
    have : j = 0 := by simpa using hj
    subst this
    have h2 := hget M (by rw [D.vers_length]; omega)
    subst hM
    rw [D.vers_last] at h2
    exact h2) (.inl hg) rfl (by rw [D.flushK_length, D.flushK_length]) (fun j hj => ?_)
  · exact h1.mono fun b hb hl => hb.elim id fun h2 => by simp only [World.setCell, Array.size_modify] at hl; omega
  · by_cases hjl : j < D.lasts.length
    · rw [D.flushK_vers _ _ hjl, D.flushK_vers _ _ hjl]
      by_cases h3 : j < k
      · rw [if_pos h3, if_pos (by omega)]
      · rw [if_neg h3, if_neg (by omega)]
    · simp only [DS.vers, DS.flushK, List.getD_eq_getElem?_getD]
      rw [List.getElem?_eq_none (by simp; omega), List.getElem?_eq_none (by simp; omega)]
      by_cases h3 : j < k
      · omega
      · rw [if_neg h3, if_neg (by omega)]
end Go.Proofs.Ythbdlfkdemjpoaa
