import Derived.Test.YtknjoigifmkdfaaD1
namespace Go.Proofs.Ytknjoigifmkdfaa
open Go.RowKit Go.Maps

/-- How many texts and bytes. -/
def tot : List ByteArray → Int
  | [] => 0
  | s :: l => 1 + s.size + tot l
theorem tot_nonneg : ∀ ss, 0 ≤ tot ss
  | [] => by simp [tot]
  | s :: l => by have := tot_nonneg l; simp only [tot]; omega
theorem tot_snoc (s : ByteArray) : ∀ l : List ByteArray, tot (l ++ [s]) = tot l + 1 + s.size
  | [] => by simp [tot]
  | a :: l => by simp only [List.cons_append, tot, tot_snoc s l]; omega
theorem tot_take_le : ∀ (l : List ByteArray) (k : Nat), tot (l.take k) ≤ tot l
  | [], k => by simp [tot]
  | a :: l, 0 => by have := tot_nonneg (a :: l); simpa [tot] using this
  | a :: l, k + 1 => by have := tot_take_le l k; simp only [List.take_succ_cons, tot]; omega
theorem tot_length : ∀ l : List ByteArray, (l.length : Int) ≤ tot l
  | [] => by simp [tot]
  | a :: l => by have := tot_length l; simp only [List.length_cons, tot]; omega
def longB (ss : List ByteArray) : Bool := decide (9000 < tot ss)

set_option maxHeartbeats 400000 in
theorem long_any (A : Option Addr) (c : Nat) (xs : List ByteArray) (w : World) (h1 : Strs w A xs) (hx : xs.length ≤ maxLen) (hsz : ∀ s ∈ xs, s.size ≤ 140737488351232) :
    Calls Try.prog 13 #[.slice A xs.length c] w fun e w' => e = .returned (.bool (longB xs)) ∧ w = w' := by
  unfold maxLen at hx
  go_enter Try.func13, Try.ntmps13
  go_wp2_with fail
  go_loop [3, 4] (fun n i => ∃ k : Nat, k ≤ xs.length ∧ i = .int .i64 k ∧ n = .int .i64 (tot (xs.take k)) ∧ tot (xs.take k) ≤ 9000) (fun _ i => xs.length - (intOf i).toNat)
  case atStart => exact ⟨0, Nat.zero_le _, rfl, by simp [tot], by simp [tot]⟩
  case round =>
    obtain ⟨k, hk, rfl, rfl, h9⟩ := hrel
    have hn := tot_nonneg (xs.take k)
    by_cases hlt : k < xs.length
    · obtain ⟨b1, o1, rfl, g1⟩ := h1.get k hlt
      have hs := hsz xs[k] (List.getElem_mem _)
      have HT : Hid (tot (xs.take (k + 1)) = tot (xs.take k) + 1 + xs[k].size) := by show _ = _; rw [List.take_succ_eq_append_getElem hlt, tot_snoc]
      by_cases hb : tot (xs.take k) + 1 + xs[k].size ≤ 9000
      · go_wp2_with fail
        go_round
        case rel => exact ⟨k + 1, by omega, by go_num, by rw [HT.out], by rw [HT.out]; omega⟩
        case measure => simp [intOf]; omega
      · have hb' : 9000 < tot (xs.take k) + 1 + xs[k].size := by omega
        clear hb
        go_wp2_with fail
        go_ret
        refine ⟨ret_bool ?_, rfl⟩
        have := tot_take_le xs (k + 1)
        rw [HT.out] at this
        unfold longB; rw [decide_eq_true]; omega
    · go_wp2_with fail
      go_ret
      refine ⟨ret_bool ?_, rfl⟩
      rw [List.take_of_length_le (by omega)] at h9
      unfold longB; rw [decide_eq_false]; omega

/-- A row of texts just laid. -/
theorem Strs.lit (w : World) (ss : List ByteArray) (cs : Array Value) (e : TypeId) (h : cs.toList = ss.map Value.string) : Strs (w.alloc (.cells cs e)) (some ⟨w.heap.size, 0, none⟩) ss := by
  refine .inr ⟨_, _, rfl, by simp, fun j hj => ?_⟩
  simp only [World.cell?, heap_alloc_new, Option.isSome_none, Bool.false_eq_true, if_false, Nat.zero_add]
  rw [← Array.getElem?_toList, h]
  simp [hj]
theorem below_alloc1 (w : World) (o : Obj) : Below w.heap.size w (w.alloc o) := (Below.refl _ _).alloc (Nat.le_refl _) _
theorem words_known : wordsL [ba [98], ba [97], ba [98]] = [[97], [98]] := by
  refine rises_unique _ _ (wordsL_rises _) (by decide) fun x => ?_
  rw [mem_wordsL]
  simp only [bl, ba, List.map_cons, List.map_nil, List.mem_cons, List.not_mem_nil, or_false]
  constructor
  · rintro (h | h | h) <;> simp [h]
  · rintro (h | h) <;> simp [h]

set_option maxHeartbeats 400000 in
theorem known_any (w : World) : Calls Try.prog 16 #[] w fun e w' => e = .returned (.bool true) ∧ Below w.heap.size w w' := by
  go_enter Try.func16, Try.ntmps16
  go_wp2_with fail
  have hs := Strs.lit w [ba [98], ba [97], ba [98]] #[.string { data := #[98] }, .string { data := #[97] }, .string { data := #[98] }] 9 rfl
  refine (words_any [ba [98], ba [97], ba [98]] _ 3 _ hs (by decide)).mono ?_
  rintro e w1 ⟨v', rfl, ho, hb⟩
  rw [words_known] at ho
  obtain ⟨A1, c1, rfl, hr1⟩ := Strs.of_owns ho
  have hb0 : Below w.heap.size w w1 := (below_alloc1 w _).trans (hb.mono (by simp))
  have hs2 := Strs.lit w1 [ba [97], ba [98]] #[.string { data := #[97] }, .string { data := #[98] }] 9 rfl
  have HB := Lib.hid hb0
  clear hb hb0 ho hs
  go_wp2_with fail
  refine (texts_any A1 _ c1 2 [ba [97], ba [98]] [ba [97], ba [98]] _ (hr1.below (below_alloc1 _ _)) hs2 (by decide) (by decide)).mono ?_
  rintro e w2 ⟨rfl, hb2⟩
  have hb3 : Below w.heap.size w w2 := HB.out.trans ((below_alloc1 w1 _).mono HB.out.size |>.trans (hb2.mono (by simp; exact Nat.le_succ_of_le HB.out.size)))
  have HB3 := Lib.hid hb3
  clear hb2 hb3
  go_wp2_with fail
  go_ret
  exact ⟨ret_bool (by simp), HB3.out⟩
end Go.Proofs.Ytknjoigifmkdfaa
