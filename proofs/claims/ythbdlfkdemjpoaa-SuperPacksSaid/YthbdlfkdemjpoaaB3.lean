/- Rows of rows of bytes, as package super makes them. No condition. -/
import Derived.Test.YthbdlfkdemjpoaaB2
import Derived.Deep.AppendLies
namespace Go.Proofs.Ythbdlfkdemjpoaa
open Go.RowKit Go.Maps

abbrev Row := List UInt8
def sliceV (g n c : Nat) : Value := .slice (some ⟨g, 0, none⟩) n c
/-- A row of rows of bytes that the call has made by appends. -/
structure Rows (B : Nat) (w : World) (v : Value) (ls : List Row) (gs cs : Nat → Nat) : Prop where
  own : w.ownsRow B 22 1 v ls.length ((List.range ls.length).map fun i => sliceV (gs i) (ls.getD i []).length (cs i))
  each : ∀ i, i < ls.length → Bytes w (some ⟨gs i, 0, none⟩) (ls.getD i []) ∧ B ≤ gs i ∧ gs i < w.heap.size
  apart : ∀ i, i < ls.length → v.ownBlock ≠ some (gs i)
theorem Rows.nil (B : Nat) (w : World) (gs cs : Nat → Nat) : Rows B w (.slice none 0 0) [] gs cs :=
  ⟨World.ownsRow_nil _ _ _ _, fun i hi => by simp at hi, fun i hi => by simp at hi⟩
theorem ownsRow_below {w w' : World} {B size n : Nat} {e : TypeId} {v : Value} {xs : List Value} (h : w.ownsRow B e size v n xs) (hb : Below w.heap.size w w') : w'.ownsRow B e size v n xs :=
  h.kept (row := none) ⟨hb.os, hb.tape, hb.output, hb.size, fun k hk _ => hb.block k hk⟩ (by
    cases h0 : v.ownBlock with
    | none => exact .inl rfl
    | some k => exact .inr (by simp))
theorem Rows.below {B : Nat} {w w' : World} {v : Value} {ls : List Row} {gs cs : Nat → Nat} (h : Rows B w v ls gs cs) (hb : Below w.heap.size w w') : Rows B w' v ls gs cs :=
  ⟨ownsRow_below h.own hb, fun i hi => ⟨(h.each i hi).1.below hb, (h.each i hi).2.1, Nat.lt_of_lt_of_le (h.each i hi).2.2 hb.size⟩, h.apart⟩
theorem Rows.push {B : Nat} {w V w1 : World} {v : Value} {ls : List Row} {gs cs : Nat → Nat} {g' c' g cp : Nat} {l : Row} (h : Rows B w v ls gs cs) (hB : B ≤ w.heap.size) (hV : Below w.heap.size w V) (hl : Bytes V (some ⟨g', 0, none⟩) l) (hg' : w.heap.size ≤ g') (hg2 : g' < V.heap.size)
    (hown : w1.ownsRow B 22 1 (.slice (some ⟨g, 0, none⟩) (ls.length + 1) cp) (ls.length + 1) (((List.range ls.length).map fun i => sliceV (gs i) (ls.getD i []).length (cs i)) ++ [sliceV g' l.length c']))
    (hgr : V.grownBy w1 v.ownBlock) (hat : v.ownBlock = some g ∨ g = V.heap.size) :
    Rows B w1 (.slice (some ⟨g, 0, none⟩) (ls.length + 1) cp) (ls ++ [l]) (fun i => if i < ls.length then gs i else g') (fun i => if i < ls.length then cs i else c') := by
  have hvl : ∀ j, v.ownBlock = some j → B ≤ j ∧ j < w.heap.size := h.own.lt
  have hlen : (ls ++ [l]).length = ls.length + 1 := by simp
  have hgd : ∀ i, i < ls.length → (ls ++ [l]).getD i [] = ls.getD i [] := fun i hi => by
    simp only [List.getD_eq_getElem?_getD]; rw [List.getElem?_append_left hi]
  have hgl : (ls ++ [l]).getD ls.length [] = l := by
    simp only [List.getD_eq_getElem?_getD]; rw [List.getElem?_append_right (Nat.le_refl _)]; simp
  have far : ∀ k, k < V.heap.size → v.ownBlock ≠ some k → w1.heap[k]? = V.heap[k]? := fun k hk hn => hgr.block k hk (Ne.symm hn)
  have hg'n : v.ownBlock ≠ some g' := fun e => by have := (hvl g' e).2; omega
  refine ⟨?_, fun i hi => ?_, fun i hi => ?_⟩
  · rw [hlen]
    have e : ((List.range (ls.length + 1)).map fun i => sliceV (if i < ls.length then gs i else g') ((ls ++ [l]).getD i []).length (if i < ls.length then cs i else c')) = ((List.range ls.length).map fun i => sliceV (gs i) (ls.getD i []).length (cs i)) ++ [sliceV g' l.length c'] := by
      rw [List.range_succ, List.map_append]
      congr 1
      · refine List.map_congr_left fun i hi => ?_
        have hi' : i < ls.length := by simpa using hi
        rw [if_pos hi', if_pos hi', hgd i hi']
      · simp only [List.map_cons, List.map_nil, Nat.lt_irrefl, if_false, hgl]
    rw [e]; exact hown
  · rw [hlen] at hi
    by_cases hi2 : i < ls.length
    · simp only [if_pos hi2]
      rw [hgd i hi2]
      obtain ⟨a1, a2, a3⟩ := h.each i hi2
      have h1 := a1.below hV
      exact ⟨h1.fix hgr.size (fun b o e hb => by cases e; exact far _ hb (h.apart i hi2)), a2, Nat.lt_of_lt_of_le (Nat.lt_of_lt_of_le a3 hV.size) hgr.size⟩
    · obtain rfl : i = ls.length := by omega
      simp only [Nat.lt_irrefl, if_false]
      rw [hgl]
      exact ⟨hl.fix hgr.size (fun b o e hb => by cases e; exact far _ hb hg'n), by omega, Nat.lt_of_lt_of_le hg2 hgr.size⟩
  · rw [hlen] at hi
    show some g ≠ _
    intro e
    injection e with e
    by_cases hi2 : i < ls.length
    · simp only [if_pos hi2] at e
      have a3 := (h.each i hi2).2.2
      rcases hat with hat | hat
      · exact h.apart i hi2 (by rw [hat, e])
      · have := hV.size; omega
    · simp only [if_neg hi2] at e
      rcases hat with hat | hat
      · exact hg'n (by rw [hat, e])
      · omega
theorem Rows.get {B : Nat} {w : World} {v : Value} {ls : List Row} {gs cs : Nat → Nat} (h : Rows B w v ls gs cs) (h0 : 0 < ls.length) : ∃ g cap, v = .slice (some ⟨g, 0, none⟩) ls.length cap ∧ B ≤ g ∧ g < w.heap.size ∧ ∀ i, i < ls.length → w.cell? ⟨g, i, none⟩ = some (sliceV (gs i) (ls.getD i []).length (cs i)) := by
  rcases h.own.2 with ⟨_, h2⟩ | ⟨g, cap, cur, h1, h2, h3, h4, h5, h6, h7⟩
  · omega
  · refine ⟨g, cap, h1, h2, lt_of h3, fun i hi => ?_⟩
    have h8 : (cur.toList.take (ls.length * 1))[i]? = ((List.range ls.length).map fun i => sliceV (gs i) (ls.getD i []).length (cs i))[i]? := by rw [h7]
    rw [List.getElem?_take, if_pos (by omega)] at h8
    rw [cell_of h3, ← Array.getElem?_toList, h8]
    simp [hi]
theorem Try.infoBRow : (Try.prog.info? 22).map (fun i => (i.zero.map (·.cells), i.size, i.bytes)) = some (some #[.slice none 0 0], 1, 24) := by kernel_rfl
theorem infoBRow_parts : ∃ i0, Try.prog.info? 22 = some i0 ∧ ∃ z, i0.zero = some z ∧ i0.size = 1 ∧ i0.bytes = 24 ∧ z.cells = #[.slice none 0 0] := by
  have := Try.infoBRow
  cases h : Try.prog.info? 22 with
  | none => rw [h] at this; cases this
  | some i =>
    rw [h] at this
    simp only [Option.map_some, Option.some.injEq, Prod.mk.injEq, Option.map_eq_some_iff] at this
    obtain ⟨⟨z, h1, h2⟩, h3, h4⟩ := this
    exact ⟨i, rfl, z, h1, h3, h4, h2⟩
theorem make_bytesN (W : World) (m : Nat) (hm : m ≤ 1000000) : (Instr.makeSlice 22 (.int .i64 m) (.int .i64 m)).run Try.prog W = .ok (.slice (some ⟨W.heap.size, 0, none⟩) m m) (W.alloc (.cells (zerosC m) 5)) := by
  obtain ⟨i0, hi, hz, hs, hby⟩ : ∃ i0, Try.prog.info? 5 = some i0 ∧ (∃ z, i0.zero = some z ∧ z.cells = #[.int .u8 0]) ∧ i0.size = 1 ∧ i0.bytes = 1 := by
    have := Try.infoByte
    cases h : Try.prog.info? 5 with
    | none => rw [h] at this; cases this
    | some i => rw [h] at this; simp at this; exact ⟨i, rfl, this.1, this.2.1, this.2.2⟩
  obtain ⟨z, hz1, hz2⟩ := hz
  have := run_make (P := Try.prog) W 22 5 i0 z Try.underlying22 hi hz1 .i64 .i64 m m (by omega) (by omega) (by rw [hby]; omega) (by omega)
  rw [hz2, hs] at this
  simp only [Int.toNat_natCast] at this
  rw [madeCells_zeros] at this
  exact this

/-! ### what a slot's sectors are -/
def zpad (m : Nat) (l : Row) : Row := l ++ List.replicate (m - l.length) 0
def packAll (img : Row) : Row := zpad 816 (leB img.length 2 ++ img)
def packHead (n : Nat) (img : Row) (i : Nat) : Row := leB n 8 ++ [UInt8.ofNat i] ++ ((packAll img).drop (51 * i)).take 51
def packRow (n : Nat) (img : Row) (i : Nat) : Row := packHead n img i ++ leB (crc (packHead n img i)) 4
def packK (n : Nat) (img : Row) (k : Nat) : List Row := (List.range k).map (packRow n img)
def packBad (n : Int) (img : Row) : Prop := n < 1 ∨ 1125899906842624 < n ∨ 814 < img.length
instance (n : Int) (img : Row) : Decidable (packBad n img) := by unfold packBad; infer_instance
def pack (n : Int) (img : Row) : List Row := if packBad n img then [] else packK n.toNat img 16
theorem packAll_length {img : Row} (h : img.length ≤ 814) : (packAll img).length = 816 := by simp [packAll, zpad, leB_length]; omega
theorem packHead_length {n : Nat} {img : Row} {i : Nat} (h : img.length ≤ 814) (hi : i < 16) : (packHead n img i).length = 60 := by
  simp only [packHead, List.length_append, leB_length, List.length_take, List.length_drop, packAll_length h, List.length_singleton]
  omega
theorem packRow_length {n : Nat} {img : Row} {i : Nat} (h : img.length ≤ 814) (hi : i < 16) : (packRow n img i).length = 64 := by
  simp only [packRow, List.length_append, packHead_length h hi, leB_length]
theorem packK_length (n : Nat) (img : Row) (k : Nat) : (packK n img k).length = k := by simp [packK]
theorem packK_succ (n : Nat) (img : Row) (k : Nat) : packK n img (k + 1) = packK n img k ++ [packRow n img k] := by simp [packK, List.range_succ]
end Go.Proofs.Ythbdlfkdemjpoaa
