import Derived.Test.YtknjoigifmkdfaaChecked
import Derived.Test.YtknjoigifmkdfaaShelf
import Derived.WalkKit
import Derived.LoopTactic
import Derived.KernelRfl
import Derived.RowKit
import Derived.RowKit3
import Derived.Below
import Derived.Lib.Hide
import Derived.Outline
import Derived.Deep.QuietTactic
import Derived.BigQuiet
import Derived.Laws.Rows
import Derived.Laws.MakeOwn
import Derived.Laws.AppendOwn
import Derived.WalkSpells
import Derived.WalkLawsBesides
namespace Go.Proofs.Ytknjoigifmkdfaa
open Go.RowKit Go.Maps

/-- A row of texts that is read. -/
def Strs (w : World) (A : Option Addr) (ss : List ByteArray) : Prop :=
  ss = [] ∨ ∃ b o, A = some ⟨b, o, none⟩ ∧ b < w.heap.size ∧ ∀ j, j < ss.length → w.cell? ⟨b, o + j, none⟩ = some (.string (ss.getD j ByteArray.empty))

theorem Strs.below {w w' : World} {A : Option Addr} {ss : List ByteArray} (h : Strs w A ss) (hb : Below w.heap.size w w') : Strs w' A ss := by
  rcases h with h | ⟨b, o, rfl, hl, hc⟩
  · exact .inl h
  · exact .inr ⟨b, o, rfl, Nat.lt_of_lt_of_le hl hb.size, fun j hj => by rw [hb.cell (p := ⟨b, o + j, none⟩) hl]; exact hc j hj⟩
theorem Strs.get {w : World} {A : Option Addr} {ss : List ByteArray} (h : Strs w A ss) (k : Nat) (hk : k < ss.length) : ∃ b o, A = some ⟨b, o, none⟩ ∧ w.cell? ⟨b, o + k, none⟩ = some (.string ss[k]) := by
  rcases h with rfl | ⟨b, o, rfl, hl, hc⟩
  · simp at hk
  · exact ⟨b, o, rfl, by rw [hc k hk, List.getD_eq_getElem?_getD, List.getElem?_eq_getElem hk]; rfl⟩

theorem ret_bool {a b : Bool} (h : a = b) : Ending.returned (.bool a) = .returned (.bool b) := by rw [h]
theorem ba_ext {a b : ByteArray} (h : a.toList = b.toList) : a = b := by
  rw [Lib.toList_data, Lib.toList_data] at h
  cases a; cases b; congr; exact Array.toList_inj.1 h
theorem _root_.Go.RowKit.Below.drewN {B : Nat} {a w : World} {n : Nat} (h : Below B a w) : Below B a (w.drewN n) := ⟨h.os, h.tape, h.output, h.size, h.block⟩

set_option maxHeartbeats 400000 in
theorem texts_any (A1 A2 : Option Addr) (c1 c2 : Nat) (xs ys : List ByteArray) (w : World) (h1 : Strs w A1 xs) (h2 : Strs w A2 ys) (hx : xs.length ≤ maxLen) (hy : ys.length ≤ maxLen) :
    Calls Try.prog 15 #[.slice A1 xs.length c1, .slice A2 ys.length c2] w fun e w' => e = .returned (.bool (decide (xs = ys))) ∧ Below w.heap.size w w' := by
  unfold maxLen at hx hy
  by_cases hl : xs.length = ys.length
  · have hb : (((xs.length : Nat) : Int) != (ys.length : Int)) = false := by simp [hl]
    have HL := Lib.hid hl; clear hl
    go_enter Try.func15, Try.ntmps15
    go_wp2_with fail
    go_loopw [5] (fun i wr => ∃ k : Nat, k ≤ xs.length ∧ i = .int .i64 k ∧ Hid (xs.take k = ys.take k) ∧ Hid (Below w.heap.size w wr)) (fun i _ => xs.length - (intOf i).toNat)
    case atStart => exact ⟨0, Nat.zero_le _, rfl, by simp [Hid], Below.refl _ _⟩
    case round =>
      obtain ⟨k, hk, rfl, HT, HB⟩ := hrel
      by_cases hlt : k < xs.length
      · obtain ⟨b1, o1, rfl, g1⟩ := (h1.below HB.out).get k hlt
        obtain ⟨b2, o2, rfl, g2⟩ := (h2.below HB.out).get k (by have := HL.out; omega)
        have q0 : (0 : Int) ≤ (k : Int) := by omega
        have q1 : ((k : Nat) : Int) < (xs.length : Int) := by omega
        have q2 : ((k : Nat) : Int) < (ys.length : Int) := by have := HL.out; omega
        have hk2 : k < ys.length := by have := HL.out; omega
        by_cases he : xs[k] = ys[k]
        · have hs : (xs[k].toList == ys[k].toList) = true := by rw [he]; simp
          have HE := Lib.hid he; clear he
          go_wp2_with fail
          go_quiet (fail)
          go_wp2_with fail
          go_roundw
          case rel => exact ⟨k + 1, by omega, by go_num, by show _ = _; rw [List.take_succ_eq_append_getElem hlt, List.take_succ_eq_append_getElem hk2, HT.out, HE.out], HB.out.drewN⟩
          case measure => simp [intOf]; omega
        · have hs : (xs[k].toList == ys[k].toList) = false := by simp; exact fun h => he (ba_ext h)
          have HE := Lib.hid he; clear he
          go_wp2_with fail
          go_quiet (fail)
          go_wp2_with fail
          go_ret
          exact ⟨ret_bool (decide_eq_false (fun h => HE.out (by subst h; rfl))).symm, HB.out.drewN⟩
      · go_wp2_with fail
        go_ret
        exact ⟨ret_bool (decide_eq_true (by have h := HT.out; have := HL.out; rwa [List.take_of_length_le (by omega), List.take_of_length_le (by omega)] at h)).symm, HB.out⟩
  · have hb : (((xs.length : Nat) : Int) != (ys.length : Int)) = true := by simp; omega
    have HF : Hid (xs ≠ ys) := fun h => hl (by rw [h])
    clear hl
    go_enter Try.func15, Try.ntmps15
    go_wp2_with fail
    go_ret
    exact ⟨ret_bool (decide_eq_false HF.out).symm, Below.refl _ _⟩

/-! ### the sort's and Compact's worlds in the words of ownsRow -/
theorem putCells_take {α : Type} [Inhabited α] (enc : α → Value) (d : Array α) (c : Array Value) (h : d.size ≤ c.size) : (Sort.putCells enc 0 d c).toList.take d.size = d.toList.map enc := by
  apply List.ext_getElem
  · simp [Sort.putCells, h]
  · intro i h1 h2
    have hi : i < d.size := by simpa using h2
    have hc : i < c.size := by omega
    simp [Sort.putCells, hi]
theorem putCells_size {α : Type} [Inhabited α] (enc : α → Value) (o : Nat) (d : Array α) (c : Array Value) : (Sort.putCells enc o d c).size = c.size := by simp [Sort.putCells]
theorem owns_putRow {α : Type} [Inhabited α] {w : World} {base g n cap e q : Nat} {xs : List Value} (enc : α → Value) (d : Array α) (os : Array Obj)
    (h : w.ownsRow base e 1 (.slice (some ⟨g, 0, none⟩) n cap) n xs) (hn : 0 < n) (hd : d.size = n) :
    (Sort.grow (Sort.putRow enc (Sort.ahead w q) g 0 d) os).ownsRow base e 1 (.slice (some ⟨g, 0, none⟩) n cap) n (d.toList.map enc) ∧ Below base w (Sort.grow (Sort.putRow enc (Sort.ahead w q) g 0 d) os) := by
  obtain ⟨h1, h2⟩ := h
  rcases h2 with ⟨_, h2⟩ | ⟨g', cap', cur, hv, hg, hh, hnc, hcm, hcs, ht⟩
  · omega
  · simp only [Value.slice.injEq, Option.some.injEq, Addr.mk.injEq] at hv
    obtain ⟨⟨rfl, _⟩, _, rfl⟩ := hv
    have hlt : g < w.heap.size := (Array.getElem?_eq_some_iff.1 hh).1
    refine ⟨⟨by simp [hd], .inr ⟨g, cap, Sort.putCells enc 0 d cur, rfl, hg, ?_, hnc, hcm, by rw [putCells_size]; exact hcs, ?_⟩⟩, ?_⟩
    · have : (Sort.putRow enc (Sort.ahead w q) g 0 d).heap[g]? = some (.cells (Sort.putCells enc 0 d cur) e (0, 0)) := by
        simp only [Sort.putRow, Sort.mapBlock, Sort.ahead, Array.getElem?_modify, if_true, hh, Option.map_some]; rfl
      rw [Sort.heap_grow_old _ _ (by simp [Sort.putRow, Sort.mapBlock, Sort.ahead]; exact hlt)]; exact this
    · rw [Nat.mul_one, ← hd]; exact putCells_take enc d cur (by omega)
    · refine ⟨rfl, rfl, rfl, by simp [Sort.grow, Sort.putRow, Sort.mapBlock, Sort.ahead], fun k hk => ?_⟩
      rw [Sort.heap_grow_old _ _ (by simp [Sort.putRow, Sort.mapBlock, Sort.ahead]; omega)]
      simp only [Sort.putRow, Sort.mapBlock, Sort.ahead, Array.getElem?_modify]
      rw [if_neg (by omega)]
theorem holds_owns {w : World} {base g n cap e : Nat} {ls : List (List UInt8)} (h : w.ownsRow base e 1 (.slice (some ⟨g, 0, none⟩) n cap) n (ls.map Go.Proofs.encStr)) : Sort.Holds Go.Proofs.encStr w g 0 ls.toArray := by
  obtain ⟨h1, h2⟩ := h
  intro j hj
  have hj' : j < ls.length := by simpa using hj
  rcases h2 with ⟨hv, _⟩ | ⟨g', cap', cur, hv, hg, hh, hnc, hcm, hcs, ht⟩
  · cases hv
  · simp only [Value.slice.injEq, Option.some.injEq, Addr.mk.injEq] at hv
    obtain ⟨⟨rfl, _⟩, _, rfl⟩ := hv
    have hl : ls.length = n := by simpa using h1
    constructor
    · simp only [World.cell?, hh, Nat.zero_add, Option.isSome_none, Bool.false_eq_true, if_false]
      have := congrArg (·[j]?) ht
      simp only [Nat.mul_one, List.getElem?_take, List.getElem?_map] at this
      rw [if_pos (by omega)] at this
      rw [← Array.getElem?_toList, this]
      simp [hj']
    · simp [World.frozen?, hh]
theorem owns_cut {w : World} {base g n m cap e : Nat} {xs : List Value} (h : w.ownsRow base e 1 (.slice (some ⟨g, 0, none⟩) n cap) n xs) (hm : m ≤ n) : w.ownsRow base e 1 (.slice (some ⟨g, 0, none⟩) m cap) m (xs.take m) := by
  obtain ⟨h1, h2⟩ := h
  refine ⟨by simp [h1]; omega, ?_⟩
  rcases h2 with ⟨hv, _⟩ | ⟨g', cap', cur, hv, hg, hh, hnc, hcm, hcs, ht⟩
  · cases hv
  · simp only [Value.slice.injEq, Option.some.injEq, Addr.mk.injEq] at hv
    obtain ⟨⟨rfl, _⟩, _, rfl⟩ := hv
    exact .inr ⟨g, cap, cur, rfl, hg, hh, by omega, hcm, hcs, by rw [← ht, List.take_take]; congr 1; omega⟩

/-! ### what Words tells -/
def bl (s : ByteArray) : List UInt8 := s.data.toList
def ba (l : List UInt8) : ByteArray := ⟨l.toArray⟩
theorem ba_bl (s : ByteArray) : ba (bl s) = s := rfl
theorem bl_ba (l : List UInt8) : bl (ba l) = l := rfl
def sorted (ls : List (List UInt8)) : List (List UInt8) := ls.mergeSort fun x y => decide (x ≤ y)
/-- The texts, each once, rising. -/
def wordsL (ss : List ByteArray) : List (List UInt8) := Lib.compact (sorted (ss.map bl))
theorem encStr_bl (ss : List ByteArray) : (ss.map bl).map Go.Proofs.encStr = ss.map Value.string := by
  rw [List.map_map]; rfl
theorem sorted_length (ls : List (List UInt8)) : (sorted ls).length = ls.length := List.length_mergeSort _
theorem compact_le (ls : List (List UInt8)) : (Lib.compact ls).length ≤ ls.length := by
  unfold Lib.compact Lib.compactUpTo
  rw [List.length_map]
  exact Nat.le_trans (List.length_filter_le _ _) (by simp)

theorem owns_zero {w : World} {base e : Nat} {v : Value} (h : w.ownsRow base e 1 v 0 []) : ∃ A c, v = .slice A 0 c := by
  rcases h.2 with ⟨rfl, _⟩ | ⟨g, cap, _, rfl, _⟩
  · exact ⟨_, _, rfl⟩
  · exact ⟨_, _, rfl⟩
set_option maxHeartbeats 400000 in
theorem words_zero (c : Nat) (A : Option Addr) (w : World) : Calls Try.prog 14 #[.slice A 0 c] w fun e w' => ∃ v', e = .returned v' ∧ w'.ownsRow w.heap.size 9 1 v' 0 [] ∧ Below w.heap.size w w' := by
  cases A with
  | none =>
    go_enter Try.func14, Try.ntmps14
    go_wp2_with (first | (go_at_call 35; refine (Try.slices_Clone_string_nil _ _ _).mono ?_; rintro e w' ⟨rfl, rfl⟩) | (go_at_call 36; refine (Try.slices_Sort_string_none _ _ _).mono ?_; rintro e w' ⟨rfl, rfl⟩) | (go_at_call 37; refine (Try.slices_Compact_string_empty _ _ _).mono ?_; rintro e w' ⟨rfl, rfl⟩))
    go_ret
    exact ⟨_, rfl, World.ownsRow_nil _ _ _ _, Below.refl _ _⟩
  | some a =>
    go_enter Try.func14, Try.ntmps14
    go_wp2_with fail
    refine (Try.slices_Clone_string_zero a c w).mono ?_
    rintro e w' ⟨v', rfl, ho, hne, hb⟩
    obtain ⟨A', c', rfl⟩ := owns_zero ho
    go_wp2_with (first | (go_at_call 36; refine (Try.slices_Sort_string_none _ _ _).mono ?_; rintro e w' ⟨rfl, rfl⟩) | (go_at_call 37; refine (Try.slices_Compact_string_empty _ _ _).mono ?_; rintro e w' ⟨rfl, rfl⟩))
    go_ret
    exact ⟨_, rfl, ho, hb⟩

set_option maxHeartbeats 400000 in
theorem words_some (ss : List ByteArray) (c b o : Nat) (w : World) (h0 : 0 < ss.length) (hreach : ss.length * 16 ≤ 140737488351232) (hc : ∀ j, j < ss.length → w.cell? ⟨b, o + j, none⟩ = some (.string (ss.getD j ByteArray.empty))) :
    Calls Try.prog 14 #[.slice (some ⟨b, o, none⟩) ss.length c] w fun e w' => ∃ v', e = .returned v' ∧ w'.ownsRow w.heap.size 9 1 v' (wordsL ss).length ((wordsL ss).map encStr) ∧ Below w.heap.size w w' := by
  go_enter Try.func14, Try.ntmps14
  go_wp2_with fail
  refine (Try.slices_Clone_string b o ss.length c ss w (Nat.le_refl _) (by omega) hc).mono ?_
  rintro e w1 ⟨v', rfl, ho, hne, hb⟩
  rw [List.take_length, ← encStr_bl] at ho
  obtain ⟨g, cap, rfl⟩ : ∃ g cap, v' = .slice (some ⟨g, 0, none⟩) ss.length cap := by
    rcases ho.2 with ⟨rfl, _⟩ | ⟨g, cap, _, rfl, _⟩
    · exact absurd rfl hne
    · exact ⟨_, _, rfl⟩
  have hg : w.heap.size ≤ g ∧ g < w1.heap.size := ho.lt g (by simp [Value.ownBlock])
  have hcap : ss.length ≤ cap := by
    rcases ho.2 with ⟨h, _⟩ | ⟨_, _, _, h, _, _, hn, _⟩
    · cases h
    · cases h; exact hn
  have hl : (ss.map bl).length = ss.length := List.length_map _
  have hl2 : (sorted (ss.map bl)).length = ss.length := by rw [sorted_length, hl]
  have C36 := Try.slices_Sort_string g 0 cap (ss.map bl) w1 (holds_owns ho) hg.2 (by rw [hl]; omega)
  rw [hl] at C36
  have H36 := Lib.hid C36
  have HL := Lib.hid hl; have HL2 := Lib.hid hl2; have HO := Lib.hid ho; have HB := Lib.hid hb
  clear C36 hl hl2 ho hb hne hc
  go_wp2_with fail
  refine H36.out.mono ?_
  rintro e w2 ⟨rfl, q, os, hw2⟩
  obtain ⟨ho2, hb2⟩ := owns_putRow (q := q) encStr (sorted (ss.map bl)).toArray os HO.out h0 (by simpa using HL2.out)
  rw [show (sorted (ss.map bl)) = (ss.map bl).mergeSort fun x y => decide (x ≤ y) from rfl, ← hw2] at ho2
  rw [show (sorted (ss.map bl)) = (ss.map bl).mergeSort fun x y => decide (x ≤ y) from rfl, ← hw2] at hb2
  rw [show ((ss.map bl).mergeSort fun x y => decide (x ≤ y)) = sorted (ss.map bl) from rfl] at ho2
  clear hw2
  have C37 := Try.slices_Compact_string g 0 cap (sorted (ss.map bl)) w2 (holds_owns ho2) (by rw [HL2.out]; omega) (by rw [HL2.out]; omega)
  rw [HL2.out] at C37
  have H37 := Lib.hid C37; have HO2 := Lib.hid ho2; have HB2 := Lib.hid hb2
  clear C37 ho2 hb2
  go_wp2_with fail
  refine H37.out.mono ?_
  rintro e w3 ⟨rfl, q3, hw3⟩
  have hcl : (Lib.compact (sorted (ss.map bl))).length ≤ ss.length := by have := compact_le (sorted (ss.map bl)); rw [HL2.out] at this; exact this
  obtain ⟨ho3, hb3⟩ := owns_putRow (q := q3) encStr (Lib.compact (sorted (ss.map bl)) ++ List.replicate (ss.length - (Lib.compact (sorted (ss.map bl))).length) []).toArray #[] HO2.out h0 (by simp; omega)
  rw [Sort.grow_empty, ← hw3] at ho3 hb3
  clear hw3
  have ho4 := owns_cut ho3 hcl
  have HO4 := Lib.hid ho4; have HB3 := Lib.hid hb3
  have HE : Hid ((List.map encStr (Lib.compact (sorted (ss.map bl)) ++ List.replicate (ss.length - (Lib.compact (sorted (ss.map bl))).length) []).toArray.toList).take (Lib.compact (sorted (ss.map bl))).length = (wordsL ss).map encStr) := by
    show _ = _
    rw [List.toList_toArray, List.map_append, List.take_left' (by simp)]; rfl
  clear ho3 ho4 hb3 hcl
  go_wp2_with fail
  go_ret
  refine ⟨_, rfl, ?_, HB.out.trans ((HB2.out.trans HB3.out).mono (Nat.le_refl _))⟩
  have h := HO4.out
  rw [HE.out] at h
  exact h

theorem wordsL_nil : wordsL [] = [] := by simp [wordsL, sorted, Lib.compact, Lib.compactUpTo]
/-- dict.Words: the texts, each once, rising, in new memory. -/
theorem words_any (ss : List ByteArray) (A : Option Addr) (c : Nat) (w : World) (hA : Strs w A ss) (hreach : ss.length * 16 ≤ 140737488351232) :
    Calls Try.prog 14 #[.slice A ss.length c] w fun e w' => ∃ v', e = .returned v' ∧ w'.ownsRow w.heap.size 9 1 v' (wordsL ss).length ((wordsL ss).map encStr) ∧ Below w.heap.size w w' := by
  rcases hA with rfl | ⟨b, o, rfl, hl, hc⟩
  · rw [wordsL_nil]; exact words_zero c A w
  · by_cases h0 : 0 < ss.length
    · exact words_some ss c b o w h0 hreach hc
    · obtain rfl : ss = [] := List.eq_nil_of_length_eq_zero (by omega)
      rw [wordsL_nil]; exact words_zero c _ w

/-- What is the call's own is a row of texts that can be read. -/
theorem Strs.of_owns {w : World} {base : Nat} {v : Value} {ls : List (List UInt8)} (h : w.ownsRow base 9 1 v ls.length (ls.map encStr)) : ∃ A c, v = .slice A ls.length c ∧ Strs w A (ls.map ba) := by
  by_cases h0 : ls = []
  · subst h0
    obtain ⟨A, c, rfl⟩ := owns_zero h
    exact ⟨A, c, rfl, .inl rfl⟩
  · have hpos : 0 < ls.length := by have := List.length_pos_iff.2 h0; omega
    obtain ⟨g, cap, rfl⟩ : ∃ g cap, v = .slice (some ⟨g, 0, none⟩) ls.length cap := by
      rcases h.2 with ⟨rfl, h1⟩ | ⟨g, cap, _, rfl, _⟩
      · omega
      · exact ⟨_, _, rfl⟩
    refine ⟨_, _, rfl, .inr ⟨g, 0, rfl, (h.lt g (by simp [Value.ownBlock])).2, fun j hj => ?_⟩⟩
    have hj' : j < ls.length := by simpa using hj
    rw [Nat.zero_add, h.cellAt j (by omega)]
    simp [hj', ba]

end Go.Proofs.Ytknjoigifmkdfaa
