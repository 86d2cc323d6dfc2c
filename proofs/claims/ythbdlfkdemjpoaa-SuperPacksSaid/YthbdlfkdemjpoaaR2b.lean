/- One more version behind a row of texts, in memory; a row exchanged in the reference's disk. No condition. -/
import Derived.Test.YthbdlfkdemjpoaaR2
import Derived.Deep.RegionLaw
import Derived.Deep.RegionLawGrows
namespace Go.Proofs.Ythbdlfkdemjpoaa
open Go.RowKit Go.Maps

theorem Try.infoStr : (Try.prog.info? 9).map (fun i => (i.zero.map (·.cells), i.size, i.bytes)) = some (some #[.string ByteArray.empty], 1, 16) := by kernel_rfl
theorem heap_setCell_row {w : World} {g o : Nat} {cs : Array Value} {t : TypeId} {fr : Nat × Nat} (h : w.heap[g]? = some (.cells cs t fr)) (v : Value) : (w.setCell ⟨g, o, none⟩ v).heap[g]? = some (.cells (cs.setIfInBounds o v) t fr) := by
  simp only [World.setCell, Array.getElem?_modify, if_true, h, Option.map_some]
  rfl
theorem add_at (b o j : Nat) : (⟨b, o, none⟩ : Addr).add j = ⟨b, o + j, none⟩ := by unfold Addr.add; split <;> simp_all
/-- What an append to a row of texts makes. -/
structure RowMore (V w1 : World) (g g' : Nat) (row' : Value) (ss : List Sec) : Prop where
  row : RowAt w1 g' row' ss
  far : ∀ k, k < V.heap.size → k ≠ g → w1.heap[k]? = V.heap[k]?
  os : w1.os = V.os
  tape : w1.tape = V.tape
  output : w1.output = V.output
  size : V.heap.size ≤ w1.heap.size
  at_ : g' = g ∨ V.heap.size ≤ g'

theorem step_row_append {ops : Array Oper} {o : Oper} {a : Act} {V : World} {K : Act → World → Prop} {Q : Exit → Act → World → Prop} {E : Prop}
    (hg : o.guard = none) (s x : Operand) (hop : o.op = Op.call { callee := Callee.builtin Builtin.append, args := #[s, x], argTypes := #[67, 67] })
    (g : Nat) (row : Value) (ss : List Sec) (hr : RowAt V g row ss) (hs : a.eval s = row) (b1 : Nat) (t : Sec) (hx : a.eval x = .slice (some ⟨b1, 0, none⟩) 1 1) (hb1 : V.heap[b1]? = some (.cells #[secS t] 9)) (hn : ss.length ≤ 1000001)
    (hK : ∀ g' row' w1, RowMore V w1 g g' row' (ss ++ [t]) → K (a.put o.dst row') w1) :
    if Region.wanted o (yielded ops a.tmps) = true then Oper.wp Try.prog o a V K Q else E := by
  obtain ⟨i0, hi0, z0, hz0, hz1, hz2, hz3⟩ : ∃ i0, Try.prog.info? 9 = some i0 ∧ ∃ z, i0.zero = some z ∧ i0.size = 1 ∧ i0.bytes = 16 ∧ z.cells.size = 1 := by
    have := Try.infoStr
    cases h : Try.prog.info? 9 with
    | none => rw [h] at this; cases this
    | some i =>
      rw [h] at this
      simp only [Option.map_some, Option.some.injEq, Prod.mk.injEq, Option.map_eq_some_iff] at this
      obtain ⟨⟨z, h1, h2⟩, h3, h4⟩ := this
      exact ⟨i, rfl, z, h1, h3, h4, by rw [h2]; rfl⟩
  obtain ⟨off, cap, cs, rfl, ho, hle, hsz, hget⟩ := hr
  have hnews : ∀ j u, ([secS t] : List Value)[j]? = some u → V.cell? ((⟨b1, 0, none⟩ : Addr).add j) = some u := fun j u hu => by
    rw [add_at, cell_of hb1, Nat.zero_add]
    simpa using hu
  have holds : ∀ j u, (ss.map secS)[j]? = some u → V.cell? ((⟨g, off, none⟩ : Addr).add j) = some u := fun j u hu => by
    rw [add_at, cell_of ho]
    have hj : j < ss.length := by have := (List.getElem?_eq_some_iff.1 hu).1; simpa using this
    rw [hget j hj]
    simpa [hj] using hu
  by_cases hroom : ss.length + 1 ≤ cap
  · refine step_append_room hg s x 67 hop 9 i0 1 Try.underlying67 hi0 hz1 g off ss.length cap hs ⟨b1, 0, none⟩ 1 1 [secS t] hx rfl hnews (by simp [secS, Value.oneCell']) hroom (fun j hj => ?_) (hK g _ _ ⟨?_, ?_, ?_, ?_, ?_, ?_, .inl rfl⟩)
    · have : j = 0 := by simpa using hj
      subst this
      rw [cell_of ho, frozen_of ho, Array.getElem?_eq_getElem (by omega)]
      simp
    · refine ⟨off, cap, cs.setIfInBounds (off + ss.length * 1) (secS t), by simp, ?_, by simp; omega, by simpa using hsz, fun j hj => ?_⟩
      · rw [World.setCells, World.setCells]
        exact heap_setCell_row ho _
      · rw [Nat.mul_one, Array.getElem?_setIfInBounds]
        simp only [List.length_append, List.length_singleton] at hj
        by_cases h1 : j = ss.length
        · subst h1
          rw [if_pos rfl, if_pos (by omega)]
          simp
        · rw [if_neg (by omega), hget j (by omega), List.getElem_append_left (by omega)]
    · intro k _ hk
      exact heap_setCells _ _ _ _ _ hk
    · exact (setCells_meta _ _ _ _).1
    · exact (setCells_meta _ _ _ _).2.1
    · exact (setCells_meta _ _ _ _).2.2.1
    · rw [(setCells_meta _ _ _ _).2.2.2]; exact Nat.le_refl _
  · refine step_append_grows hg s x 67 hop 9 i0 z0 1 16 Try.underlying67 hi0 hz0 hz1 hz2 hz3 (by omega) (some ⟨g, off, none⟩) ss.length cap (ss.map secS) hs (by simp) (by simp) (fun b hb j u hu => by cases hb; exact holds j u hu)
      ⟨b1, 0, none⟩ 1 1 [secS t] hx rfl hnews (by simp [secS, Value.oneCell']) (by omega) (by unfold maxLen; omega) (by omega) (fun v' w' hown hgrow => ?_)
    rcases hown.2 with ⟨_, h0⟩ | ⟨g', cap', cur, rfl, hbase, ho', hle', _, hcs, htake⟩
    · omega
    · refine hK g' _ _ ⟨⟨0, cap', cur, by simp, ho', by simpa using hle', by omega, fun j hj => ?_⟩, fun k hk _ => hgrow.block k hk (by simp), hgrow.os, hgrow.tape, hgrow.output, hgrow.size, .inr hbase⟩
      have h1 : (cur.toList.take ((ss.length + 1) * 1))[j]? = (ss.map secS ++ [secS t])[j]? := by rw [htake]
      simp only [List.length_append, List.length_singleton] at hj
      rw [List.getElem?_take, if_pos (by omega)] at h1
      rw [Nat.zero_add, ← Array.getElem?_toList, h1]
      by_cases h2 : j = ss.length
      · subst h2; simp
      · rw [List.getElem?_append_left (by simp; omega), List.getElem_append_left (by omega)]
        simp [show j < ss.length by omega]

/-- A row exchanged. -/
theorem RefMem.exchange {W w1 : World} {q bo cap : Nat} {T : Nat → Prop} {D D' : DS} {outer : Array Value} {gs : Nat → Nat} (h : RefMem W q T D bo cap outer gs) (i : Nat) (hi : i < D.lasts.length) {g' : Nat} {row' : Value}
    (hfar : ∀ k, k < W.heap.size → k ≠ gs i → w1.heap[k]? = W.heap[k]?) (hrow : RowAt w1 g' row' (D'.vers i)) (hat : g' = gs i ∨ W.heap.size ≤ g')
    (hfu : D'.fuse = D.fuse) (hlen : D'.lasts.length = D.lasts.length) (hoth : ∀ j, j ≠ i → D'.vers j = D.vers j) :
    RefMem (w1.setCell ⟨bo, i, none⟩ row') q (fun k => T k ∨ W.heap.size ≤ k) D' bo cap (outer.setIfInBounds i row') (fun j => if j = i then g' else gs j) := by
  have rowty : ∀ j, j < D.lasts.length → gs j ≠ bo ∧ gs j ≠ q := fun j hj => by
    obtain ⟨v, _, o, c, cs, _, h4, _⟩ := h.rows j hj
    refine ⟨fun e => ?_, fun e => ?_⟩
    · rw [e, h.rim] at h4; injection h4 with a; injection a with _ a; exact absurd a (by decide)
    · rw [e, h.own] at h4; injection h4 with a; injection a with _ a; exact absurd a (by decide)
  have hbq : bo ≠ q := fun e => by have a := h.rim; rw [e, h.own] at a; injection a with a; injection a with _ a; exact absurd a (by decide)
  have hbl := lt_of h.rim
  have hql := lt_of h.own
  have hgl : ∀ j, j < D.lasts.length → gs j < W.heap.size := fun j hj => by obtain ⟨v, _, hv⟩ := h.rows j hj; exact hv.lt
  have hg'b : g' ≠ bo := by rcases hat with e | e; · rw [e]; exact (rowty i hi).1
                            · omega
  have hg'q : g' ≠ q := by rcases hat with e | e; · rw [e]; exact (rowty i hi).2
                           · omega
  have far : ∀ k, k ≠ bo → (w1.setCell ⟨bo, i, none⟩ row').heap[k]? = w1.heap[k]? := fun k hk => Below.heap_setCell _ _ _ _ hk
  refine ⟨?_, ?_, by rw [hlen]; simpa using h.wide, fun j hj => ?_, fun j k hj hk e => ?_, .inl h.tq, .inl h.tb, fun j hj => ?_⟩
  · rw [far q (Ne.symm hbq), hfar q hql (fun e => (rowty i hi).2 e.symm), hlen, hfu]; exact h.own
  · exact heap_setCell_row ((hfar bo hbl (fun e => (rowty i hi).1 e.symm)).trans h.rim) _
  · rw [hlen] at hj
    by_cases hji : j = i
    · subst hji
      refine ⟨row', by rw [Array.getElem?_setIfInBounds, if_pos rfl, if_pos (Nat.lt_of_lt_of_le hj h.wide)], ?_⟩
      rw [if_pos rfl]
      exact hrow.fix (far g' hg'b)
    · obtain ⟨v, hv, hr⟩ := h.rows j hj
      refine ⟨v, by rw [Array.getElem?_setIfInBounds, if_neg (Ne.symm hji)]; exact hv, ?_⟩
      rw [if_neg hji, hoth j hji]
      exact hr.fix ((far _ (rowty j hj).1).trans (hfar _ (hgl j hj) (fun e => hji (h.inj j i hj hi e))))
  · rw [hlen] at hj hk
    by_cases h1 : j = i
    · by_cases h2 : k = i
      · omega
      · simp only [h1, h2, if_true, if_false] at e
        rcases hat with e' | e'
        · exact absurd (h.inj k i hk hi (by rw [← e, e'])) h2
        · have := hgl k hk; omega
    · by_cases h2 : k = i
      · simp only [h1, h2, if_true, if_false] at e
        rcases hat with e' | e'
        · exact absurd (h.inj j i hj hi (by rw [e, e'])) h1
        · have := hgl j hj; omega
      · simp only [h1, h2, if_false] at e
        exact h.inj j k hj hk e
  · rw [hlen] at hj
    by_cases h1 : j = i
    · rw [if_pos h1]
      rcases hat with e' | e'
      · rw [e']; exact .inl (h.tg i hi)
      · exact .inr e'
    · rw [if_neg h1]; exact .inl (h.tg j hj)
end Go.Proofs.Ythbdlfkdemjpoaa
