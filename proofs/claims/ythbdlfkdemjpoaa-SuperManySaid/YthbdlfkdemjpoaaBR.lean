/- How a row of rows of bytes lies in memory. No condition. -/
import Derived.Test.YthbdlfkdemjpoaaArgs
import Derived.Lib.SmallJoins
namespace Go.Proofs.Ythbdlfkdemjpoaa
open Go.ChangeShapes Go.WideShapes Go.ChangeAt Go.RowKit

def BRowAt (w : World) (b o : Nat) (x : List UInt8) : Prop := ∃ A c, w.cell? ⟨b, o, none⟩ = some (.slice A x.length c) ∧ Bytes w A x
def BRows (w : World) (A : Option Addr) (l : List (List UInt8)) : Prop := l = [] ∨ ∃ b o, A = some ⟨b, o, none⟩ ∧ b < w.heap.size ∧ ∀ i (hi : i < l.length), BRowAt w b (o + i) l[i]
theorem BRowAt.below {w w' : World} {b o : Nat} {x : List UInt8} (h : BRowAt w b o x) (hb : Below w.heap.size w w') (hl : b < w.heap.size) : BRowAt w' b o x := by
  obtain ⟨A, c, h0, h4⟩ := h
  exact ⟨A, c, by rw [World.cell?_of_block (hb.block b hl), h0], h4.below hb⟩
theorem BRows.below {w w' : World} {A : Option Addr} {l : List (List UInt8)} (h : BRows w A l) (hb : Below w.heap.size w w') : BRows w' A l := by
  rcases h with h | ⟨b, o, rfl, hl, hc⟩
  · exact .inl h
  · exact .inr ⟨b, o, rfl, Nat.lt_of_lt_of_le hl hb.size, fun i hi => (hc i hi).below hb hl⟩
theorem BRows.get {w : World} {A : Option Addr} {l : List (List UInt8)} (h : BRows w A l) (k : Nat) (hk : k < l.length) : ∃ b o, A = some ⟨b, o, none⟩ ∧ b < w.heap.size ∧ BRowAt w b (o + k) l[k] := by
  rcases h with rfl | ⟨b, o, rfl, hl, hc⟩
  · simp at hk
  · exact ⟨b, o, rfl, hl, hc k hk⟩

section
variable {H : Type} {P : Program}
theorem rowsOf_open {enc : TypeId × Value → H} {W : World} {spare : Nat → Bool} {t tb te : TypeId} {a : Option Addr} {len cap : Nat} {d : DataW H} {p : List MemPlace}
    (hl : Light P t d) (ht : P.underlying t = some (.slice tb)) (hb : P.underlying tb = some (.slice te)) (hte : P.underlying te = some (.int .u8))
    (cb : P.cellsOf tb = 1) (cte : P.cellsOf te = 1) (be : P.bytesOf te = 1)
    (h : DataW.Trod enc P W 0 spare true t (.slice a len cap) d p) :
    ∃ l : List (List UInt8), l.length = len ∧ BRows W a l ∧ (len ≤ maxLen) ∧ ∀ x ∈ l, x.length ≤ 140737488351232 := by
  obtain ⟨fuel, hf⟩ := h
  have hlt := DataW.trod_lt fuel _ _ _ hf
  rcases DataW.trod_slice ht hf with ⟨hcs, _⟩ | ⟨x, l, c, elems, rest, m, _, hcs, hx, _, hlc, hcm, hel, hget, _⟩
  · simp [Value.cells] at hcs
    obtain ⟨rfl, rfl, rfl⟩ := hcs
    exact ⟨[], rfl, .inl rfl, by simp, by simp⟩
  · simp [Value.cells] at hcs
    obtain ⟨rfl, rfl, rfl⟩ := hcs
    obtain ⟨rfl, rfl⟩ := Prod.mk.inj hx
    have one : ∀ i (hi' : i < elems.length), ∃ y : List UInt8, y.length ≤ 140737488351232 ∧ (∃ A c, W.cell? ((x.add (i * 1)).add 0) = some (.slice A y.length c) ∧ Bytes W A y) := by
      intro i hi'
      have hg := hget i (by omega)
      rw [List.getElem?_eq_getElem hi', cb] at hg
      obtain ⟨vs, hvs, htr⟩ := Option.bind_eq_some_iff.1 hg
      obtain ⟨_, hvl, hcell⟩ := World.cells?_some hvs
      have hL : Light P tb (elems[i]'hi').1 := hl.elem ht (List.mem_map_of_mem (List.getElem_mem hi'))
      match vs, hvl with
      | [v], _ =>
        obtain ⟨A, k, c, rfl⟩ : ∃ A k c, v = .slice A k c := by
          rcases DataW.trod_slice hb htr with ⟨h0, _⟩ | ⟨_, _, _, _, _, _, _, h1, _⟩
          · simp only [List.cons.injEq, and_true] at h0; exact ⟨_, _, _, h0⟩
          · simp only [List.cons.injEq, and_true] at h1; exact ⟨_, _, _, h1⟩
        obtain ⟨bs, hk, hB, hbl⟩ := bytes_open hL hb hte cte be ⟨_, htr⟩
        subst hk
        exact ⟨bs, hbl, A, c, hcell 0 (by omega), hB⟩
    have hall : ∃ l : List (List UInt8), l.length = elems.length ∧ ∀ i (h1 : i < l.length) (_ : i < elems.length), l[i].length ≤ 140737488351232 ∧ (∃ A c, W.cell? ((x.add (i * 1)).add 0) = some (.slice A l[i].length c) ∧ Bytes W A l[i]) := by
      refine ⟨List.ofFn fun i : Fin elems.length => Classical.choose (one i.1 i.2), by simp, fun i h1 h2 => ?_⟩
      have := Classical.choose_spec (one i h2)
      simpa using this
    obtain ⟨ls, hls, hk⟩ := hall
    refine ⟨ls, by omega, ?_, by omega, fun y hy => ?_⟩
    · by_cases h0 : elems.length = 0
      · left; exact List.eq_nil_of_length_eq_zero (by omega)
      · right
        obtain ⟨b, off, spot⟩ := x
        obtain ⟨_, _, hc0, _⟩ := (hk 0 (by omega) (by omega)).2
        have hspot : spot = none := by simpa [Addr.add] using World.cell?_spot hc0
        subst hspot
        refine ⟨b, off, rfl, ?_, fun i hi' => ?_⟩
        · refine hlt (.cell b off) (List.mem_append_left _ (MemPlace.mem_row.2 ⟨0, ?_, by simp⟩))
          rw [cb]; omega
        · obtain ⟨A, c, g0, g1⟩ := (hk i hi' (by omega)).2
          simp only [add_plain, Nat.mul_one, Nat.add_zero] at g0
          exact ⟨A, c, g0, g1⟩
    · obtain ⟨i, hi', rfl⟩ := List.mem_iff_getElem.1 hy
      exact (hk i hi' (by omega)).1
theorem rows_open {H : Type} {enc : TypeId × Value → H} {W : World} {spare : Nat → Bool} {a : Option Addr} {len cap : Nat} {d : DataW H} {p : List MemPlace}
    (hl : Light Try.prog 23 d) (h : DataW.Trod enc Try.prog W 0 spare true 23 (.slice a len cap) d p) :
    ∃ l : List (List UInt8), l.length = len ∧ BRows W a l ∧ (len ≤ maxLen) ∧ ∀ x ∈ l, x.length ≤ 140737488351232 :=
  rowsOf_open hl Try.underlying23 Try.underlying22 Try.underlying5 (by kernel_rfl) (by kernel_rfl) (by kernel_rfl) h
end
end Go.Proofs.Ythbdlfkdemjpoaa
