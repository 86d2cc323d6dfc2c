/- Appends to a row of bytes: of any bytes, of noughts. No condition. -/
import Derived.Test.YthbdlfkdemjpoaaB7
import Derived.Lib.AppendZerosOnto
import Derived.Deep.Upon
namespace Go.Proofs.Ythbdlfkdemjpoaa
open Go.RowKit

section
variable {P : Program}
/-- An append whose run is known, at the list of a plain region's operations. -/
theorem wp_append_run {w : World} {o : Oper} {a : Act} {K : Act → World → Prop} {Q : Exit → Act → World → Prop} (s x : Operand) (t tx : TypeId)
    (ho : o.op = .call { callee := .builtin .append, args := #[s, x], argTypes := #[t, tx] }) (v y : Value) (hs : a.eval s = v) (hx : a.eval x = y) (R : Value → World → Prop)
    (hr : ∃ v' w', (Builtin.append_ #[t, tx] o.type #[v, y]).run P w = .ok v' w' ∧ R v' w') (h : ∀ v' w', R v' w' → K (a.put o.dst v') w') : o.wp P a w K Q := by
  obtain ⟨v', w', hr, h2⟩ := hr
  unfold Oper.wp execOp
  simp only [ho, resolve, invoke, builtin, Sem.run_bind, Sem.run_pure, Result.andThen_ok, List.map_toArray, List.map_cons, List.map_nil, hs, hx, hr]
  exact h v' w' h2
theorem wpList_append_run {w : World} {ops : Array Oper} {rest : List Oper} {o : Oper} {a : Act} {Q : Exit → Act → World → Prop} (hgd : o.guard = none) (s x : Operand) (t tx : TypeId)
    (ho : o.op = .call { callee := .builtin .append, args := #[s, x], argTypes := #[t, tx] }) (v y : Value) (hs : a.eval s = v) (hx : a.eval x = y) (R : Value → World → Prop)
    (hr : ∃ v' w', (Builtin.append_ #[t, tx] o.type #[v, y]).run P w = .ok v' w' ∧ R v' w') (h : ∀ v' w', R v' w' → wpList P ops Q rest (a.put o.dst v') w') : wpList P ops Q (o :: rest) a w :=
  wpList_plain hgd fun _ hK => wp_append_run s x t tx ho v y hs hx R hr fun v' w' h2 => hK _ _ (h v' w' h2)
end
/-- What an append to a row of bytes leaves. -/
def Grew (B : Nat) (w : World) (v : Value) (l : Row) (v' : Value) (w' : World) : Prop := w'.ownsRow B 5 1 v' l.length (secV l) ∧ w.grownBy w' v.ownBlock
theorem append_bytes {B : Nat} (w : World) (ty : TypeId) (v : Value) (l m : Row) (A : Option Addr) (c : Nat) (ho : w.ownsRow B 5 1 v l.length (secV l)) (hA : Bytes w A m) (hB : B ≤ w.heap.size) (hl : l.length + m.length ≤ 1000000) :
    ∃ v' w', (Builtin.append_ #[22, 22] ty #[v, .slice A m.length c]).run Try.prog w = .ok v' w' ∧ Grew B w v (l ++ m) v' w' := by
  obtain ⟨i0, hi0, z0, hz0, hz1, hz2, hz3⟩ := infoByte_parts
  unfold Grew
  cases A with
  | none =>
    have hm : m = [] := by
      rcases hA with h | ⟨b, o, h, _⟩
      · exact h
      · cases h
    subst hm
    rw [List.append_nil]
    have hsrc : Src Try.prog i0.size 22 (.slice none 0 c) 0 [] w := Src.ofNil w Try.underlying22 c
    obtain ⟨base, sl, sc, rfl, hle⟩ : ∃ base sl sc, v = .slice base sl sc ∧ sl ≤ sc := by
      rcases ho.2 with ⟨rfl, _⟩ | ⟨g, cap, cur, rfl, _, _, h, _⟩
      · exact ⟨none, 0, 0, rfl, Nat.le_refl _⟩
      · exact ⟨_, _, _, rfl, h⟩
    exact ⟨_, _, run_append_nothing w 22 22 ty 5 i0 Try.underlying22 hi0 base sl sc hle _ hsrc, ho, ⟨rfl, rfl, rfl, Nat.le_refl _, fun _ _ _ => rfl⟩⟩
  | some a =>
    have hnews : ∀ j u, (secV m)[j]? = some u → w.cell? (a.add j) = some u := fun j u hu => by
      rcases hA with h | ⟨b, o, h, _, hc⟩
      · rw [h] at hu; simp [secV] at hu
      · cases h; rw [show (⟨b, o, none⟩ : Addr).add j = ⟨b, o + j, none⟩ by unfold Addr.add; split <;> simp_all]; exact hc j u hu
    obtain ⟨v', w', h1, h2, h3, _⟩ := run_append_own (P := Try.prog) w B 22 ty 5 i0 z0 1 1 Try.underlying22 hi0 hz0 hz1 hz2 hz3 (by omega) v l.length (secV l) ho a m.length c (secV m) (by rw [secV_length]; omega) hnews (fun u hu => secV_one hu) (by unfold maxLen; omega) (by omega) hB
    exact ⟨v', w', h1, by rw [List.length_append, secV_append]; exact h2, h3⟩
theorem infoByteZ : ∃ i0, Try.prog.info? 5 = some i0 ∧ ∃ z, i0.zero = some z ∧ i0.size = 1 ∧ i0.bytes = 1 ∧ z.cells = #[.int .u8 0] := by
  have := Try.infoByte
  cases h : Try.prog.info? 5 with
  | none => rw [h] at this; cases this
  | some i =>
    rw [h] at this
    simp only [Option.map_some, Option.some.injEq, Prod.mk.injEq, Option.map_eq_some_iff] at this
    obtain ⟨⟨z, h1, h2⟩, h3, h4⟩ := this
    exact ⟨i, rfl, z, h1, h3, h4, h2⟩
theorem append_noughts {B : Nat} (w : World) (ty : TypeId) (v : Value) (l : Row) (k : Nat) (ho : w.ownsRow B 5 1 v l.length (secV l)) (hn : l ≠ []) (hB : B ≤ w.heap.size) (hl : l.length + k ≤ 1000000) :
    ∃ v' w', (Builtin.append_ #[22, 3] ty #[v, .int .i64 k]).run Try.prog w = .ok v' w' ∧ Grew B w v (l ++ List.replicate k 0) v' w' := by
  obtain ⟨i0, hi0, z0, hz0, hz1, hz2, hz3⟩ := infoByteZ
  have hzc : ∀ n, Builtin.zeroCells z0.cells n = (secV (List.replicate n 0)).toArray := fun n => by
    apply Array.ext
    · rw [hz3]; simp [Builtin.zeroCells, secV]
    · intro i h1 h2
      simp [Builtin.zeroCells, hz3, secV, Nat.mod_one]
  have hlen : (secV (l ++ List.replicate k 0)).length = (l ++ List.replicate k 0).length * 1 := by rw [secV_length]; omega
  have hll : (l ++ List.replicate k 0).length = l.length + k := by simp
  rcases ho.2 with ⟨_, h0⟩ | ⟨g, cap, cur, rfl, hbg, hg, hnc, hcm, hcs, htake⟩
  · exact absurd (List.eq_nil_of_length_eq_zero h0) hn
  · have hw : IntKind.i64.wrap (k : Int) = k := by rw [IntKind.wrap_i64]; omega
    have hneg : ¬ ((k : Int) < 0) := by omega
    unfold Grew
    rw [hll]
    have hcl : cur.size = cap := by omega
    by_cases hroom : l.length + k ≤ cap
    · have hst := run_storeCells_at Try.prog g l.length 5 (secV (List.replicate k 0)) 0 cur w hg (by rw [secV_length, List.length_replicate, hcl]; omega) (fun u hu => secV_one hu)
      simp only [Nat.add_zero] at hst
      refine ⟨.slice (some ⟨g, 0, none⟩) (l.length + k) cap, w.setRow g (cur.toList.take l.length ++ secV (List.replicate k 0) ++ cur.toList.drop (l.length + (secV (List.replicate k 0)).length)).toArray, ?_, ⟨hlen.trans (by rw [hll]), .inr ⟨g, cap, _, rfl, hbg, setRow_heap w g cur _ _ _ hg, hroom, hcm, ?_, ?_⟩⟩, rfl, rfl, rfl, by simp, fun j _ hj => setRow_other w g j _ (fun e => hj (by simp [Value.ownBlock, e]))⟩
      · by_cases hk : k = 0
        · subst hk
          have hs0 : w.setRow g (cur.toList.take l.length ++ secV (List.replicate 0 0) ++ cur.toList.drop (l.length + (secV (List.replicate 0 0)).length)).toArray = w := by
            have e : (cur.toList.take l.length ++ secV (List.replicate 0 0) ++ cur.toList.drop (l.length + (secV (List.replicate 0 0)).length)).toArray = cur := by simp [secV]
            rw [e, setRow_self w g cur _ _ hg]
          rw [hs0]
          simp [Builtin.append_, run_underlying Try.underlying22, run_underlying Try.underlying3, sizeOf, typeInfo, hi0, hz2, asInt, asIntOf, show IntKind.i64.wrap 0 = 0 by rw [IntKind.wrap_i64]; rfl, hnc, storeCells, Addr.add_lit]
        · simp [Builtin.append_, run_underlying Try.underlying22, run_underlying Try.underlying3, sizeOf, typeInfo, zeroValue, hi0, hz0, hz1, hz2, asInt, asIntOf, hw, hneg, hk, hroom, hzc, Addr.add_lit, hst]
          intro h; omega
      · simp only [List.size_toArray, List.length_append, List.length_take, List.length_drop, Array.length_toList, secV_length, List.length_replicate]
        omega
      · rw [Nat.mul_one] at htake
        rw [secV_append, ← hll, Nat.mul_one, htake, ← hlen.trans (Nat.mul_one _), secV_append]
        exact List.take_left
    · have hold : (Builtin.firstCells i0.size l.length (.slice (some ⟨g, 0, none⟩) l.length cap)).run Try.prog w.drew = .ok (secV l).toArray w.drew := by
        rw [hz1]
        exact run_firstCells_some w.drew 1 l.length ⟨g, 0, none⟩ l.length cap (secV l) (by rw [secV_length]; omega) (fun j u hu => ho.cells (g := g) rfl j u hu)
      have hcg := grownCap_ge w (l.length + k) cap 5
      have hcm2 := grownCap_le_maxLen w (l.length + k) cap 5 (by unfold maxLen; omega)
      have hr := Lib.run_append_grow_zeros (P := Try.prog) w 22 3 ty 5 i0 z0 .i64 .i64 Try.underlying22 Try.underlying3 hi0 hz0 (some ⟨g, 0, none⟩) l.length cap (secV l) hold k (by omega) (by rw [hz1]; omega) (by omega) (by omega) (by rw [hz2]; omega) (growslice_fits (by omega) (by rw [hz2]; omega))
      refine ⟨_, _, hr, ⟨hlen.trans (by rw [hll]), .inr ⟨w.heap.size, _, _, rfl, hB, heap_alloc_new w.drew _, hcg, hcm2, ?_, ?_⟩⟩, rfl, rfl, rfl, by simp, fun j hj _ => heap_alloc_old w.drew _ hj⟩
      · simp only [Array.size_append, hzc, List.size_toArray, secV_length, List.length_replicate]
        omega
      · rw [hzc]
        simp only [Array.toList_append]
        rw [← secV_append, ← hll, ← hlen]
        exact List.take_left
end Go.Proofs.Ythbdlfkdemjpoaa
