import Derived.Test.YtknjoigifmkdfaaD0
import Derived.ProofKit
import Derived.SizedLaws
import Derived.OpenShut
import Derived.ShutString
import Derived.ChangeOld
import Derived.SliceStrings
namespace Go.Proofs.Ytknjoigifmkdfaa
open Go.ChangeShapes Go.WideShapes Go.ChangeAt Go.RowKit

section
variable {H : Type} {P : Program}
/-- What a datum weighs, part by part, is within the reach. -/
def Light (P : Program) (t : TypeId) (d : DataW H) : Prop := ∀ n ∈ d.weights P t, n ≤ 140737488351232
theorem light_of {ts : List TypeId} {ds : List (DataW H)} (h : (DataW.weightsEach P ts ds).all (· ≤ reachBytes) = true) (j : Nat) {t : TypeId} {d : DataW H} (ht : ts[j]? = some t) (hd : ds[j]? = some d) : Light P t d := by
  intro n hn
  have := List.all_eq_true.1 h n (DataW.weights_mem_each ht hd n hn)
  exact of_decide_eq_true this
theorem weightsAll_mem {e : TypeId} {n : Nat} {d : DataW H} (hn : n ∈ d.weights P e) : ∀ {l : List (DataW H)}, d ∈ l → n ∈ DataW.weightsAll P e l
  | x :: l, h => by
    simp only [DataW.weightsAll, List.mem_append]
    rcases List.mem_cons.1 h with rfl | h
    · exact .inl hn
    · exact .inr (weightsAll_mem hn h)
theorem Light.elem {t e : TypeId} {xs ys : List (DataW H)} (h : Light P t (.slice xs ys)) (ht : P.underlying t = some (.slice e)) {d : DataW H} (hd : d ∈ xs) : Light P e d := by
  intro n hn
  refine h n ?_
  simp only [DataW.weights, ht, List.mem_cons, List.mem_append]
  exact .inr (.inl (weightsAll_mem hn hd))
theorem Light.row {t e : TypeId} {xs ys : List (DataW H)} (h : Light P t (.slice xs ys)) (ht : P.underlying t = some (.slice e)) : (xs.length + ys.length) * P.bytesOf e ≤ 140737488351232 := by
  refine h _ ?_
  simp only [DataW.weights, ht, List.mem_cons]
  exact .inl trivial

/-- A slice that came in is no longer than it has room. -/
theorem cap_ok {enc : TypeId × Value → H} {W : World} {spare : Nat → Bool} {held : Bool} {t e : TypeId} {a : Option Addr} {len cap : Nat} {d : DataW H} {p : List MemPlace}
    (ht : P.underlying t = some (.slice e)) (h : DataW.Trod enc P W 0 spare held t (.slice a len cap) d p) : len ≤ cap ∧ cap ≤ maxLen := by
  obtain ⟨fuel, hf⟩ := h
  rcases DataW.trod_slice ht hf with h0 | ⟨x, l, c, _, _, _, _, h1, _, _, hl, hm, _⟩
  · simp [Value.cells] at h0
    obtain ⟨⟨rfl, rfl, rfl⟩, _⟩ := h0
    simp
  · simp [Value.cells] at h1
    obtain ⟨rfl, rfl, rfl⟩ := h1
    exact ⟨hl, hm⟩
/-- A row of texts that came in. -/
theorem strs_open {enc : TypeId × Value → H} {W : World} {spare : Nat → Bool} {t e : TypeId} {a : Option Addr} {len cap : Nat} {d : DataW H} {p : List MemPlace}
    (hl : Light P t d) (ht : P.underlying t = some (.slice e)) (he : P.underlying e = some .string) (hc : P.cellsOf e = 1) (hB : P.bytesOf e = 16)
    (h : DataW.Trod enc P W 0 spare true t (.slice a len cap) d p) :
    ∃ ss : List ByteArray, ss.length = len ∧ Strs W a ss ∧ len * 16 ≤ 140737488351232 ∧ ∀ s ∈ ss, s.size ≤ 140737488351232 := by
  obtain ⟨fuel, hf⟩ := h
  have hlt := DataW.trod_lt fuel _ _ _ hf
  rcases open_strings ht he hc hf with ⟨hcs, _⟩ | ⟨x, l, c, ss, hcs, _, hlc, _, hz, hx, hcell, _⟩
  · simp [Value.cells] at hcs
    obtain ⟨rfl, rfl, rfl⟩ := hcs
    exact ⟨[], rfl, .inl rfl, by simp, by simp⟩
  · simp [Value.cells] at hcs
    obtain ⟨rfl, rfl, rfl⟩ := hcs
    obtain ⟨rfl, rfl⟩ := Prod.mk.inj hx
    have hlen : len ≤ ss.length := by
      rw [hz]
      split
      · exact hlc
      · exact Nat.le_refl _
    have hr := hl.row ht
    rw [hB] at hr
    simp only [strs, List.length_map, List.length_take, List.length_drop] at hr
    refine ⟨ss.take len, by simp [hlen], ?_, by omega, fun s hs => ?_⟩
    · by_cases h0 : len = 0
      · left; simp [h0]
      · right
        obtain ⟨b, off, spot⟩ := x
        have hspot : spot = none := by simpa [Addr.add] using World.cell?_spot (hcell 0 (by omega))
        subst hspot
        refine ⟨b, off, rfl, hlt (.cell b off) (MemPlace.mem_row.2 ⟨0, by omega, by simp⟩), fun j hj => ?_⟩
        simp only [List.length_take] at hj
        rw [← add_plain, hcell j (by omega)]
        simp [List.getD_eq_getElem?_getD, show j < len by omega]
    · have := (hl.elem ht (d := .lit (.string s.data.toList)) (by simp only [strs, List.mem_map]; exact ⟨s, hs, rfl⟩)) s.data.toList.length (by simp [DataW.weights])
      simpa using this
end
end Go.Proofs.Ytknjoigifmkdfaa
