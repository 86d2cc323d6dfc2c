import Derived.Test.YtknjoigifmkdfaaD2
namespace Go.Proofs.Ytknjoigifmkdfaa
open Go.RowKit Go.Maps

def fnd (s : ByteArray) (ws : List ByteArray) : Bool := ws.any fun x => x.toList == s.toList
theorem fnd_snoc (s x : ByteArray) (ws : List ByteArray) : fnd s (ws ++ [x]) = (fnd s ws || x.toList == s.toList) := by simp [fnd]
theorem fnd_words (ss : List ByteArray) (s : ByteArray) (h : s ∈ ss) : fnd s ((wordsL ss).map ba) = true := by
  unfold fnd
  rw [List.any_eq_true]
  refine ⟨s, ?_, by simp⟩
  rw [List.mem_map]
  exact ⟨bl s, (mem_wordsL ss _).2 (List.mem_map_of_mem h), rfl⟩
theorem words_lt (ss ws : List ByteArray) (hws : ws = (wordsL ss).map ba) (i j : Nat) (hij : i < j) (hj : j < ws.length) : Op.bytesLess (ws[i]'(by omega)).toList (ws[j]).toList = true := by
  subst hws
  rw [bytesLess_eq]
  have h := List.pairwise_iff_getElem.1 (wordsL_rises ss) i j (by simp at hj; omega) (by simpa using hj) hij
  simp only [List.getElem_map, Lib.toList_data]
  exact decide_eq_true h

set_option maxHeartbeats 400000 in
theorem law_long (ss : List ByteArray) (A : Option Addr) (c : Nat) (w : World) (hA : Strs w A ss) (hx : ss.length ≤ maxLen) (hsz : ∀ s ∈ ss, s.size ≤ 140737488351232) (hl : longB ss = true) :
    Calls Try.prog 3 #[.slice A ss.length c] w fun e w' => e = .returned (.bool true) ∧ Below w.heap.size w w' := by
  go_enter Try.func3, Try.ntmps3
  go_wp2_with (go_at_call 13; refine (long_any A c ss _ hA hx hsz).mono ?_; rintro e w' ⟨rfl, rfl⟩)
  go_ret
  exact ⟨rfl, Below.refl _ _⟩

set_option maxHeartbeats 1000000 in
theorem law_short (ss : List ByteArray) (A : Option Addr) (c : Nat) (w : World) (hA : Strs w A ss) (hx : ss.length ≤ 9000) (hsz : ∀ s ∈ ss, s.size ≤ 140737488351232) (hl : longB ss = false) :
    Calls Try.prog 3 #[.slice A ss.length c] w fun e w' => e = .returned (.bool true) ∧ Below w.heap.size w w' := by
  have HM := Lib.hid (fnd_words ss)
  have hwl := wordsL_le ss
  have HI := Lib.hid (wordsL_idem (wordsL ss) (wordsL_rises ss))
  obtain ⟨ws, hws⟩ : ∃ ws, ws = (wordsL ss).map ba := ⟨_, rfl⟩
  have hlen : (wordsL ss).length = ws.length := by rw [hws]; simp
  have HW := Lib.hid hws
  have HR := Lib.hid (words_lt ss ws hws)
  rw [← hws] at HM
  rw [hlen] at hwl
  have HL := Lib.hid hlen
  clear hws hlen
  go_enter Try.func3, Try.ntmps3
  go_wp2_with (go_at_call 13; refine (long_any A c ss _ hA (by unfold maxLen; omega) hsz).mono ?_; rintro e w' ⟨rfl, rfl⟩)
  go_wp2_with fail
  refine (words_any ss A c w hA (by omega)).mono ?_
  rintro e w1 ⟨v', rfl, ho, hb⟩
  obtain ⟨A1, c1, rfl, hr1⟩ := Strs.of_owns ho
  rw [← HW.out] at hr1
  rw [HL.out]
  have hA1 := hA.below hb
  have HB := Lib.hid hb
  clear ho hb
  go_wp2_with fail
  go_loopw [4] (fun i wr => ∃ k : Nat, 1 ≤ k ∧ k ≤ 9001 ∧ i = .int .i64 k ∧ Hid (Below w1.heap.size w1 wr)) (fun i _ => 9001 - (intOf i).toNat)
  case atStart => exact ⟨1, by omega, by omega, rfl, Below.refl _ _⟩
  case round =>
    obtain ⟨k, hk1, hk9, rfl, HB1⟩ := hrel
    by_cases hlt : k < ws.length
    · obtain ⟨b1, o1, rfl, g1⟩ := (hr1.below HB1.out).get (k - 1) (by omega)
      obtain ⟨b2, o2, he, g2⟩ := (hr1.below HB1.out).get k hlt
      simp only [Option.some.injEq, Addr.mk.injEq, and_true] at he
      obtain ⟨rfl, rfl⟩ := he
      have hs : Op.bytesLess (ws[k - 1]'(by omega)).toList ws[k].toList = true := HR.out (k - 1) k (by omega) hlt
      have q0 : (0 : Int) ≤ (k : Int) - 1 := by omega
      have q1 : (k : Int) - 1 < (ws.length : Int) := by omega
      have q2 : ((k : Nat) : Int) < (ws.length : Int) := by omega
      have q3 : IntKind.i64.wrap ((k : Int) - 1) = (k : Int) - 1 := IntWalk.i64_in _ (by omega)
      have q4 : ((k : Int) - 1).toNat = k - 1 := by omega
      have q5 : (0 : Int) ≤ (k : Int) := by omega
      go_wp2_with fail
      go_quiet (fail)
      clear q3 q4
      go_wp2_with fail
      go_roundw
      case rel => exact ⟨k + 1, by omega, by omega, by go_num, HB1.out.drewN⟩
      case measure => simp [intOf]; omega
    · clear hk1 hk9
      go_wp2_with fail
      clear hlt
      obtain ⟨w2, rfl⟩ : ∃ w2 : World, w2 = wr := ⟨_, rfl⟩
      have hr2 := hr1.below HB1.out
      have hA2 := hA1.below HB1.out
      go_loopw [5] (fun i wr => ∃ k : Nat, k ≤ ss.length ∧ i = .int .i64 k ∧ Hid (Below w2.heap.size w2 wr)) (fun i _ => ss.length - (intOf i).toNat)
      case atStart => exact ⟨0, by omega, rfl, Below.refl _ _⟩
      case round =>
        obtain ⟨i, hi, rfl, HB2⟩ := hrel
        by_cases hlt : i < ss.length
        · have hA3 := hA2.below HB2.out
          have hr3 := hr2.below HB2.out
          obtain ⟨bA, oA, rfl, gA0⟩ := hA3.get i hlt
          have HF : Hid (fnd ss[i] ws = true) := HM.out _ (List.getElem_mem hlt)
          go_wp2_with fail
          obtain ⟨w3, rfl⟩ : ∃ w3 : World, w3 = wr := ⟨_, rfl⟩
          go_loopw [6, 7] (fun f i2 wr => ∃ k : Nat, k ≤ ws.length ∧ i2 = .int .i64 k ∧ f = .bool (fnd ss[i] (ws.take k)) ∧ Hid (Below w3.heap.size w3 wr)) (fun _ i _ => ws.length - (intOf i).toNat)
          case atStart => exact ⟨0, by omega, rfl, rfl, Below.refl _ _⟩
          case round =>
            obtain ⟨k, hk, rfl, rfl, HB3⟩ := hrel
            by_cases hlt2 : k < ws.length
            · obtain ⟨b1, o1, rfl, g1⟩ := (hr3.below HB3.out).get k hlt2
              obtain ⟨bB, oB, he, gA⟩ := (hA3.below HB3.out).get i hlt
              simp only [Option.some.injEq, Addr.mk.injEq, and_true] at he
              obtain ⟨rfl, rfl⟩ := he
              have q1 : ((k : Nat) : Int) < (ws.length : Int) := by omega
              have q2 : ((i : Nat) : Int) < (ss.length : Int) := by omega
              have q5 : (0 : Int) ≤ (k : Int) := by omega
              have q6 : (0 : Int) ≤ (i : Int) := by omega
              have HS : Hid (fnd ss[i] (ws.take (k + 1)) = (fnd ss[i] (ws.take k) || ws[k].toList == ss[i].toList)) := by
                show _ = _; rw [List.take_succ_eq_append_getElem hlt2, fnd_snoc]
              obtain ⟨f, hf⟩ : ∃ f, fnd ss[i] (ws.take k) = f := ⟨_, rfl⟩
              rw [hf] at HS ⊢
              clear hf
              obtain ⟨g, hg⟩ : ∃ g, (ws[k].toList == ss[i].toList) = g := ⟨_, rfl⟩
              rw [hg] at HS
              cases f with
              | true =>
                clear hg
                go_wp2_with fail
                go_quiet (fail)
                go_wp2_with fail
                go_roundw
                case rel => exact ⟨k + 1, by omega, by go_num, by rw [HS.out]; rfl, HB3.out.drewN⟩
                case measure => simp [intOf]; omega
              | false =>
                go_wp2_with fail
                go_quiet (fail)
                clear hg
                go_wp2_with fail
                go_roundw
                case rel => exact ⟨k + 1, by omega, by go_num, by rw [HS.out]; rfl, HB3.out.drewN⟩
                case measure => simp [intOf]; omega
            · have hf : fnd ss[i] (ws.take k) = true := by rw [List.take_of_length_le (by omega)]; exact HF.out
              go_wp2_with fail
              go_roundw
              case rel => exact ⟨i + 1, by omega, by go_num, HB2.out.trans (HB3.out.mono HB2.out.size)⟩
              case measure => simp [intOf]; omega
        · have hwl' : ((ws.length : Nat) : Int) ≤ (ss.length : Int) := by omega
          go_wp2_with fail
          have hr3 := hr2.below HB2.out
          have hw3 : Below w.heap.size w wr := HB.out.trans ((HB1.out.mono HB.out.size).trans (HB2.out.mono (Nat.le_trans HB.out.size HB1.out.size)))
          have HW3 := Lib.hid hw3
          clear hw3 HB1 HB2 hlt
          refine (words_any ws A1 c1 wr hr3 (by omega)).mono ?_
          rintro e w5 ⟨v', rfl, ho, hb⟩
          rw [HW.out, HI.out] at ho
          obtain ⟨A2, c2, rfl, hr5⟩ := Strs.of_owns ho
          rw [← HW.out] at hr5
          rw [HL.out]
          have hr6 := hr3.below hb
          have HB5 := Lib.hid hb
          clear ho hb
          go_wp2_with fail
          refine (texts_any A2 A1 c2 c1 ws ws w5 hr5 hr6 (by unfold maxLen; omega) (by unfold maxLen; omega)).mono ?_
          rintro e w6 ⟨rfl, hb6⟩
          have HB6 := Lib.hid hb6
          clear hb6
          have hd : decide (ws = ws) = true := decide_eq_true rfl
          go_wp2_with fail
          refine (known_any w6).mono ?_
          rintro e w7 ⟨rfl, hb7⟩
          have HB7 := Lib.hid hb7
          clear hb7
          go_wp2_with fail
          go_ret
          refine ⟨rfl, ?_⟩
          have e1 := HW3.out
          have e2 := e1.trans (HB5.out.mono e1.size)
          have e3 := e2.trans (HB6.out.mono e2.size)
          exact e3.trans (HB7.out.mono e3.size)
end Go.Proofs.Ytknjoigifmkdfaa
namespace Go.Proofs.Ytknjoigifmkdfaa
open Go.RowKit
theorem law_any (ss : List ByteArray) (A : Option Addr) (c : Nat) (w : World) (hA : Strs w A ss) (hx : ss.length ≤ maxLen) (hsz : ∀ s ∈ ss, s.size ≤ 140737488351232) :
    Calls Try.prog 3 #[.slice A ss.length c] w fun e w' => e = .returned (.bool true) ∧ Below w.heap.size w w' := by
  cases hl : longB ss with
  | true => exact law_long ss A c w hA hx hsz hl
  | false =>
    have h1 := tot_length ss
    have h2 : ¬ 9000 < tot ss := of_decide_eq_false hl
    exact law_short ss A c w hA (by omega) hsz hl
end Go.Proofs.Ytknjoigifmkdfaa
