/- What octet's Join does to two rows and three; bytes.Clone and bytes.Equal. No condition. -/
import Derived.Test.YthbdlfkdemjpoaaB1
import Derived.Test.YthbdlfkdemjpoaaShelf
namespace Go.Proofs.Ythbdlfkdemjpoaa
open Go.RowKit Go.Maps

theorem secV_get (l : List UInt8) (i : Nat) (x : UInt8) (h : l[i]? = some x) : (secV l)[i]? = some (.int .u8 (x.toNat : Int)) := by simp [secV, h]
theorem add0 (b o j : Nat) : (⟨b, o, none⟩ : Addr).add j = ⟨b, o + j, none⟩ := add_at b o j
theorem holds_of_bytes {w : World} {A : Option Addr} {l : List UInt8} (h : Bytes w A l) (c : Nat) : Lib.HoldsBytes w (.slice A l.length c) l := by
  refine ⟨A, c, rfl, fun e => ?_, fun a e i x hx => ?_⟩
  · rcases h with h | ⟨b, o, h1, _⟩
    · exact h
    · rw [h1] at e; cases e
  · rcases h with h | ⟨b, o, h1, h2, h3⟩
    · rw [h] at hx; simp at hx
    · rw [h1] at e; cases e
      rw [add0]
      exact h3 i _ (secV_get l i x hx)
/-- A new row of bytes. -/
structure FB (B : Nat) (w : World) (A : Option Addr) (l : List UInt8) : Prop where
  bytes : Bytes w A l
  new : l ≠ [] → ∀ b o, A = some ⟨b, o, none⟩ → B ≤ b
theorem FB.below {B : Nat} {w w' : World} {A : Option Addr} {l : List UInt8} (h : FB B w A l) (hb : Below w.heap.size w w') : FB B w' A l := ⟨h.bytes.below hb, h.new⟩
theorem FB.mono {B B' : Nat} {w : World} {A : Option Addr} {l : List UInt8} (h : FB B w A l) (hB : B' ≤ B) : FB B' w A l := ⟨h.bytes, fun hn b o e => Nat.le_trans hB (h.new hn b o e)⟩
theorem fresh_bytes {B : Nat} {w : World} {v : Value} {l : List UInt8} (h : Lib.FreshBytes B w v l) : ∃ g cap, v = .slice (some ⟨g, 0, none⟩) l.length cap ∧ FB B w (some ⟨g, 0, none⟩) l := by
  obtain ⟨g, cap, zs, h1, h2, h3, _, h5, h6, h7, h8, _⟩ := h
  refine ⟨g, cap, h1, ⟨?_, fun _ b o e => by cases e; exact h2⟩⟩
  by_cases h0 : l = []
  · exact .inl h0
  have hpos : 0 < l.length := List.length_pos_iff.2 h0
  refine .inr ⟨g, 0, rfl, World.block_lt_of_cell? w _ (h8 0 (by omega)), fun j v hv => ?_⟩
  have hj : j < l.length := by have := (List.getElem?_eq_some_iff.1 hv).1; simpa [secV] using this
  rw [Nat.zero_add, h8 j (by omega), ← hv]
  have hjz : j < zs.length := by omega
  have e1 : l[j]? = some (UInt8.ofNat (zs[j]).toNat) := by
    rw [← h7]
    simp [Lib.bytesOf, hj, hjz]
  have e2 := h6 zs[j] (List.getElem_mem _)
  have e3 : (UInt8.ofNat (zs[j]).toNat).toNat = (zs[j]).toNat := by
    show (zs[j]).toNat % 256 = _
    omega
  rw [secV_get l j _ e1, e3]
  simp only [List.getD_eq_getElem?_getD, List.getElem?_eq_getElem hjz, Option.getD_some, Option.some.injEq, Value.int.injEq, true_and]
  omega
theorem join_nil (ls : List (List UInt8)) : Lib.join ls [] = ls.flatten := by
  unfold Lib.join
  induction ls with
  | nil => rfl
  | cons x ls ih =>
    cases ls with
    | nil => simp [List.intercalate]
    | cons y ls =>
      simp only [List.intercalate, List.intersperse_cons_cons, List.flatten_cons, List.nil_append] at ih ⊢
      rw [ih]
def Joined (w : World) (l : List UInt8) (e : Ending) (w' : World) : Prop := ∃ g c, e = .returned (.slice (some ⟨g, 0, none⟩) l.length c) ∧ FB w.heap.size w' (some ⟨g, 0, none⟩) l ∧ Below w.heap.size w w'
theorem join_many (b o n c : Nat) (vs : List Value) (ls : List (List UInt8)) (w : World) (hn : ls.length = n) (h2 : 2 ≤ n) (hP : Lib.PartsAt w ⟨b, o, none⟩ vs ls) (hcap : n ≤ c) (hn47 : n ≤ 1000) (hlen : Lib.lens ls ≤ 1000000) :
    Calls Try.prog 47 #[.slice (some ⟨b, o, none⟩) n c] w (Joined w ls.flatten) := by
  obtain ⟨L, hL⟩ : ∃ L, L = ls.flatten := ⟨_, rfl⟩
  rw [← hL]
  have hj := Try.bytes_Join_many b o n c vs ls (.slice none 0 0) [] w hn h2 hP hcap ⟨none, 0, rfl, fun _ => rfl, fun a e => by cases e⟩ (by omega) (by simp; omega)
  have HJ := Lib.hid hj; have HLL := Lib.hid hL
  clear hj hP hn hL
  go_enter Try.func47, Try.ntmps47
  go_wp2_with fail
  refine HJ.out.mono ?_
  rintro e w1 ⟨v, rfl, hf, hb⟩
  rw [join_nil, ← HLL.out] at hf
  obtain ⟨g, cap, rfl, hF⟩ := fresh_bytes hf
  have HF := Lib.hid hF; have HB := Lib.hid hb
  clear hf hF hb
  go_wp2_with fail
  go_ret
  exact ⟨g, cap, rfl, HF.out, HB.out⟩
theorem parts2 {w : World} {b : Nat} {A1 A2 : Option Addr} {l1 l2 : List UInt8} {c1 c2 : Nat} {t : TypeId} (hb : w.heap[b]? = some (.cells #[.slice A1 l1.length c1, .slice A2 l2.length c2] t (0, 0))) (h1 : Bytes w A1 l1) (h2 : Bytes w A2 l2) :
    Lib.PartsAt w ⟨b, 0, none⟩ [.slice A1 l1.length c1, .slice A2 l2.length c2] [l1, l2] := by
  refine ⟨rfl, fun i v hv => ?_, fun i v l hv hl => ?_⟩
  · rw [add0, Nat.zero_add, cell_of hb, List.getElem?_toArray]; exact hv
  · match i, hv, hl with
    | 0, hv, hl => simp only [List.getElem?_cons_zero, Option.some.injEq] at hv hl; subst hv hl; exact holds_of_bytes h1 c1
    | 1, hv, hl => simp only [List.getElem?_cons_succ, List.getElem?_cons_zero, Option.some.injEq] at hv hl; subst hv hl; exact holds_of_bytes h2 c2
theorem parts3 {w : World} {b : Nat} {A1 A2 A3 : Option Addr} {l1 l2 l3 : List UInt8} {c1 c2 c3 : Nat} {t : TypeId} (hb : w.heap[b]? = some (.cells #[.slice A1 l1.length c1, .slice A2 l2.length c2, .slice A3 l3.length c3] t (0, 0))) (h1 : Bytes w A1 l1) (h2 : Bytes w A2 l2) (h3 : Bytes w A3 l3) :
    Lib.PartsAt w ⟨b, 0, none⟩ [.slice A1 l1.length c1, .slice A2 l2.length c2, .slice A3 l3.length c3] [l1, l2, l3] := by
  refine ⟨rfl, fun i v hv => ?_, fun i v l hv hl => ?_⟩
  · rw [add0, Nat.zero_add, cell_of hb, List.getElem?_toArray]; exact hv
  · match i, hv, hl with
    | 0, hv, hl => simp only [List.getElem?_cons_zero, Option.some.injEq] at hv hl; subst hv hl; exact holds_of_bytes h1 c1
    | 1, hv, hl => simp only [List.getElem?_cons_succ, List.getElem?_cons_zero, Option.some.injEq] at hv hl; subst hv hl; exact holds_of_bytes h2 c2
    | 2, hv, hl => simp only [List.getElem?_cons_succ, List.getElem?_cons_zero, Option.some.injEq] at hv hl; subst hv hl; exact holds_of_bytes h3 c3
theorem join2 (b c : Nat) (A1 A2 : Option Addr) (l1 l2 : List UInt8) (c1 c2 : Nat) (t : TypeId) (w : World) (hb : w.heap[b]? = some (.cells #[.slice A1 l1.length c1, .slice A2 l2.length c2] t (0, 0))) (h1 : Bytes w A1 l1) (h2 : Bytes w A2 l2) (hc : 2 ≤ c) (hl : l1.length + l2.length ≤ 1000000) :
    Calls Try.prog 47 #[.slice (some ⟨b, 0, none⟩) 2 c] w (Joined w (l1 ++ l2)) := by
  have := join_many b 0 2 c _ [l1, l2] w rfl (by omega) (parts2 hb h1 h2) hc (by omega) (by simp [Lib.lens]; omega)
  rwa [show [l1, l2].flatten = l1 ++ l2 by simp] at this
theorem join3 (b c : Nat) (A1 A2 A3 : Option Addr) (l1 l2 l3 : List UInt8) (c1 c2 c3 : Nat) (t : TypeId) (w : World) (hb : w.heap[b]? = some (.cells #[.slice A1 l1.length c1, .slice A2 l2.length c2, .slice A3 l3.length c3] t (0, 0))) (h1 : Bytes w A1 l1) (h2 : Bytes w A2 l2) (h3 : Bytes w A3 l3) (hc : 3 ≤ c) (hl : l1.length + l2.length + l3.length ≤ 1000000) :
    Calls Try.prog 47 #[.slice (some ⟨b, 0, none⟩) 3 c] w (Joined w (l1 ++ l2 ++ l3)) := by
  have := join_many b 0 3 c _ [l1, l2, l3] w rfl (by omega) (parts3 hb h1 h2 h3) hc (by omega) (by simp [Lib.lens]; omega)
  rwa [show [l1, l2, l3].flatten = l1 ++ l2 ++ l3 by simp] at this

/-! ### bytes.Clone, bytes.Equal -/
def Cloned (w : World) (l : List UInt8) (e : Ending) (w' : World) : Prop := ∃ A c, e = .returned (.slice A l.length c) ∧ FB w.heap.size w' A l ∧ Below w.heap.size w w'
theorem clone_bytes (A : Option Addr) (c : Nat) (l : List UInt8) (w : World) (hA : Bytes w A l) (hl : l.length ≤ 1000000) : Calls Try.prog 62 #[.slice A l.length c] w (Cloned w l) := by
  cases A with
  | none =>
    have h0 : l = [] := by
      rcases hA with h | ⟨b, o, h1, _⟩
      · exact h
      · cases h1
    subst h0
    refine (Try.bytes_Clone_nil 0 c w).mono ?_
    rintro e w' ⟨rfl, rfl⟩
    exact ⟨none, 0, rfl, ⟨.inl rfl, fun h => absurd rfl h⟩, Below.refl _ _⟩
  | some a =>
    refine (Try.bytes_Clone_at a l.length c (l.map fun x => (x.toNat : Int)) w (by simp) (by omega) (fun i hi => ?_)).mono ?_
    · rcases hA with h | ⟨b, o, h1, h2, h3⟩
      · rw [h] at hi; simp at hi
      · cases h1
        rw [add0, h3 i _ (secV_get l i l[i] (List.getElem?_eq_getElem hi))]
        simp [List.getD_eq_getElem?_getD, hi]
    · rintro e w' ⟨v, rfl, ho, hnn, hb⟩
      rcases ho.2 with ⟨h1, h2⟩ | ⟨g, cap, cur, h1, h2, h3, h4, h5, h6, h7⟩
      · refine ⟨none, 0, by rw [h1, h2], ⟨.inl (List.eq_nil_of_length_eq_zero h2), fun h => absurd (List.eq_nil_of_length_eq_zero h2) h⟩, hb⟩
      · refine ⟨_, cap, by rw [h1], ⟨.inr ⟨g, 0, rfl, lt_of h3, fun j v hv => ?_⟩, fun _ b o e => by cases e; exact h2⟩, hb⟩
        have hj : j < l.length := by have := (List.getElem?_eq_some_iff.1 hv).1; simpa [secV] using this
        have h8 : (cur.toList.take (l.length * 1))[j]? = (((l.map fun x => (x.toNat : Int)).map (Value.int .u8)))[j]? := by rw [h7]
        rw [List.getElem?_take, if_pos (by omega)] at h8
        rw [Nat.zero_add, cell_of h3, ← Array.getElem?_toList, h8, ← hv]
        simp [secV, Function.comp_def]
theorem equal_bytes (A1 A2 : Option Addr) (c1 c2 : Nat) (l1 l2 : List UInt8) (w : World) (h1 : Bytes w A1 l1) (h2 : Bytes w A2 l2) :
    Calls Try.prog 76 #[.slice A1 l1.length c1, .slice A2 l2.length c2] w fun e w' => e = .returned (.bool (l1 == l2)) ∧ w = w' := by
  have e1 : ∀ l : List UInt8, strOfNums (l.map fun x => (x.toNat : Int)) = ⟨l.toArray⟩ := fun l => by simp [strOfNums, Function.comp_def]
  have e2 : ∀ l : List UInt8, Lib.bytesOf (l.map fun x => (x.toNat : Int)) = l := fun l => by simp [Lib.bytesOf, Function.comp_def]
  have := Try.bytes_Equal (.slice A1 l1.length c1) (.slice A2 l2.length c2) (l1.map fun x => (x.toNat : Int)) (l2.map fun x => (x.toNat : Int)) w (by rw [e1]; exact conv_text w A1 l1 c1 h1) (by rw [e1]; exact conv_text w A2 l2 c2 h2)
  rw [e2, e2] at this
  exact this.mono fun _ _ ⟨a, b⟩ => ⟨a, b.symm⟩
end Go.Proofs.Ythbdlfkdemjpoaa
