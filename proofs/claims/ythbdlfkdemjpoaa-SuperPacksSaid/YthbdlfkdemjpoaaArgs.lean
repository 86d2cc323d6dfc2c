/- How the laws' arguments lie in memory: rows of bytes, of whole numbers. No condition. -/
import Derived.Test.YthbdlfkdemjpoaaS10
import Derived.ProofKit
import Derived.SizedLaws
import Derived.OpenShut
import Derived.ShutString
import Derived.ChangeOld
import Derived.ChangeSlices
namespace Go.Proofs.Ythbdlfkdemjpoaa
open Go.ChangeShapes Go.WideShapes Go.ChangeAt Go.RowKit

section
variable {H : Type} {P : Program}
/-- What a datum weighs, part by part, is within the reach. -/
def Light (P : Program) (t : TypeId) (d : DataW H) : Prop := ∀ n ∈ d.weights P t, n ≤ 140737488351232
theorem light_of {ts : List TypeId} {ds : List (DataW H)} (h : (DataW.weightsEach P ts ds).all (· ≤ reachBytes) = true) (j : Nat) {t : TypeId} {d : DataW H} (ht : ts[j]? = some t) (hd : ds[j]? = some d) : Light P t d := by
  intro n hn
  have := List.all_eq_true.1 h n (DataW.weights_mem_each ht hd n hn)
  exact of_decide_eq_true this
theorem weightsAll_mem {e : TypeId} {n : Nat} {d : DataW H} (hn : n ∈ d.weights P e) : ∀ {l : List (DataW H)}, d ∈ l → n ∈ DataW.weightsAll P e l
  | x :: l, h => by
    simp only [DataW.weightsAll, List.mem_append]
    rcases List.mem_cons.1 h with rfl | h
    · exact .inl hn
    · exact .inr (weightsAll_mem hn h)
theorem Light.elem {t e : TypeId} {xs ys : List (DataW H)} (h : Light P t (.slice xs ys)) (ht : P.underlying t = some (.slice e)) {d : DataW H} (hd : d ∈ xs) : Light P e d := by
  intro n hn
  refine h n ?_
  simp only [DataW.weights, ht, List.mem_cons, List.mem_append]
  exact .inr (.inl (weightsAll_mem hn hd))
theorem Light.row {t e : TypeId} {xs ys : List (DataW H)} (h : Light P t (.slice xs ys)) (ht : P.underlying t = some (.slice e)) : (xs.length + ys.length) * P.bytesOf e ≤ 140737488351232 := by
  refine h _ ?_
  simp only [DataW.weights, ht, List.mem_cons]
  exact .inl trivial
/-- A slice that came in is no longer than it has room. -/
theorem cap_ok {enc : TypeId × Value → H} {W : World} {spare : Nat → Bool} {held : Bool} {t e : TypeId} {a : Option Addr} {len cap : Nat} {d : DataW H} {p : List MemPlace}
    (ht : P.underlying t = some (.slice e)) (h : DataW.Trod enc P W 0 spare held t (.slice a len cap) d p) : len ≤ cap ∧ cap ≤ maxLen := by
  obtain ⟨fuel, hf⟩ := h
  rcases DataW.trod_slice ht hf with h0 | ⟨x, l, c, _, _, _, _, h1, _, _, hl, hm, _⟩
  · simp [Value.cells] at h0
    obtain ⟨⟨rfl, rfl, rfl⟩, _⟩ := h0
    simp
  · simp [Value.cells] at h1
    obtain ⟨rfl, rfl, rfl⟩ := h1
    exact ⟨hl, hm⟩
theorem nums_open {enc : TypeId × Value → H} {W : World} {spare : Nat → Bool} {t e : TypeId} {k : IntKind} {a : Option Addr} {len cap : Nat} {d : DataW H} {p : List MemPlace}
    (hl : Light P t d) (ht : P.underlying t = some (.slice e)) (he : P.underlying e = some (.int k)) (hc : P.cellsOf e = 1)
    (h : DataW.Trod enc P W 0 spare true t (.slice a len cap) d p) :
    ∃ zs : List Int, zs.length = len ∧ (zs = [] ∨ ∃ b o, a = some ⟨b, o, none⟩ ∧ b < W.heap.size ∧ W.rangeAt b o (zs.map (Value.int k))) ∧ len * P.bytesOf e ≤ 140737488351232 ∧ ∀ z ∈ zs, (Lit.int k z).wf = true := by
  obtain ⟨fuel, hf⟩ := h
  have hlt := DataW.trod_lt fuel _ _ _ hf
  rcases open_ints ht he hc hf with ⟨hcs, _⟩ | ⟨x, l, c, zs, hcs, _, hlc, _, hz, hx, hcell, hw⟩
  · simp [Value.cells] at hcs
    obtain ⟨rfl, rfl, rfl⟩ := hcs
    exact ⟨[], rfl, .inl rfl, by simp, by simp⟩
  · simp [Value.cells] at hcs
    obtain ⟨rfl, rfl, rfl⟩ := hcs
    obtain ⟨rfl, rfl⟩ := Prod.mk.inj hx
    have hlen : len ≤ zs.length := by
      rw [hz]
      split
      · exact hlc
      · exact Nat.le_refl _
    have hr := hl.row ht
    simp only [lits, List.length_map, List.length_take, List.length_drop] at hr
    refine ⟨zs.take len, by simp [hlen], ?_, Nat.le_trans (Nat.mul_le_mul_right _ (by omega)) hr, fun z hz => hw z (List.mem_of_mem_take hz)⟩
    by_cases h0 : len = 0
    · left; simp [h0]
    · right
      obtain ⟨b, off, spot⟩ := x
      have hspot : spot = none := by simpa [Addr.add] using World.cell?_spot (hcell 0 (by omega))
      subst hspot
      refine ⟨b, off, rfl, hlt (.cell b off) (MemPlace.mem_row.2 ⟨0, by omega, by simp⟩), fun j v hv => ?_⟩
      have hj : j < len := by have := (List.getElem?_eq_some_iff.1 hv).1; simp at this; omega
      rw [← add_plain, hcell j (by omega)]
      rw [← hv]
      simp [List.getD_eq_getElem?_getD, hj, List.getElem?_eq_getElem (show j < zs.length by omega)]
/-- A row of whole numbers that came in. -/
theorem ints_open {enc : TypeId × Value → H} {W : World} {spare : Nat → Bool} {t e : TypeId} {a : Option Addr} {len cap : Nat} {d : DataW H} {p : List MemPlace}
    (hl : Light P t d) (ht : P.underlying t = some (.slice e)) (he : P.underlying e = some (.int .i64)) (hc : P.cellsOf e = 1) (hB : P.bytesOf e = 8)
    (h : DataW.Trod enc P W 0 spare true t (.slice a len cap) d p) :
    ∃ zs : List Int, zs.length = len ∧ Ints W a zs ∧ len * 8 ≤ 140737488351232 ∧ ∀ z ∈ zs, (Lit.int .i64 z).wf = true := by
  obtain ⟨zs, h1, h2, h3, h4⟩ := nums_open hl ht he hc h
  exact ⟨zs, h1, h2, by rw [hB] at h3; exact h3, h4⟩
/-- A row of bytes that came in. -/
theorem bytes_open {enc : TypeId × Value → H} {W : World} {spare : Nat → Bool} {t e : TypeId} {a : Option Addr} {len cap : Nat} {d : DataW H} {p : List MemPlace}
    (hl : Light P t d) (ht : P.underlying t = some (.slice e)) (he : P.underlying e = some (.int .u8)) (hc : P.cellsOf e = 1) (hB : P.bytesOf e = 1)
    (h : DataW.Trod enc P W 0 spare true t (.slice a len cap) d p) :
    ∃ l : List UInt8, l.length = len ∧ Bytes W a l ∧ len ≤ 140737488351232 := by
  obtain ⟨zs, h1, h2, h3, h4⟩ := nums_open hl ht he hc h
  refine ⟨zs.map fun z => UInt8.ofNat z.toNat, by simpa using h1, ?_, by rw [hB] at h3; omega⟩
  have hm : secV (zs.map fun z => UInt8.ofNat z.toNat) = zs.map (Value.int .u8) := by
    unfold secV
    rw [List.map_map]
    refine List.map_congr_left fun z hz => ?_
    have hw := h4 z hz
    have h5 : 0 ≤ z ∧ z < 256 := by
      have a1 : IntKind.u8.min = 0 := rfl
      have a2 : IntKind.u8.max = 255 := rfl
      simp only [Lit.wf, Bool.and_eq_true, decide_eq_true_eq] at hw
      omega
    simp only [Function.comp, Value.int.injEq, true_and]
    have h6 : (UInt8.ofNat z.toNat).toNat = z.toNat := by
      show z.toNat % 256 = z.toNat
      omega
    rw [h6]
    omega
  rcases h2 with rfl | h2
  · exact .inl rfl
  · refine .inr ?_
    rw [hm]; exact h2
end
end Go.Proofs.Ythbdlfkdemjpoaa
