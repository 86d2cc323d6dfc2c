/- The walk of the law SuperOfNothing: it returns true for every input. No condition. -/
import Derived.Test.YthbdlfkdemjpoaaB13
namespace Go.Proofs.Ythbdlfkdemjpoaa
open Go.RowKit Go.Maps

theorem fresh_slot (n k : Nat) (hk : 16 * k + 16 ≤ n) : (freshD n).slot (16 * k) 16 = zeroSlot := by
  apply List.ext_getElem?
  intro i
  by_cases hi : i < 16
  · rw [slot_get _ _ _ _ hi]
    have e : (freshD n).read (16 * k + i) = zeroSec := by
      show (([] : List Sec).getLast?).getD ((List.replicate n zeroSec).getD (16 * k + i) []) = _
      rw [List.getD_eq_getElem?_getD, List.getElem?_replicate, if_pos (by omega)]
      rfl
    rw [e, zeroSlot, List.getElem?_replicate, if_pos hi]
  · rw [List.getElem?_eq_none (by rw [DS.slot_length]; omega), List.getElem?_eq_none (by simp [zeroSlot]; omega)]
theorem fresh_open (n : Nat) (hn : 32 ≤ n) : (openK (freshD n) 2).1 = false := by
  have h0 := fresh_slot n 0 (by omega)
  have h1 := fresh_slot n 1 (by omega)
  simp only [openK, h0, h1, wholeOf_zero]
def want (n : Nat) : Int := if n < 32 then 1 else 2
theorem open_fresh (p n : Nat) (S : Nat → Prop) {B : Nat} (w : World) (h : Dk B w p S (freshD n)) : Calls Try.prog 25 #[.pointer (some ⟨p, 0, none⟩)] w fun e w' => e = .returned (.tuple #[.pointer none, .int .i64 (want n)]) ∧ Below w.heap.size w w' := by
  refine (open_any p S _ w h).mono ?_
  have hl : (freshD n).lasts.length = n := by simp [freshD]
  rintro e w' ⟨hb, a | a | a⟩
  · rw [hl] at a
    exact ⟨by rw [a.2, want, if_pos a.1], hb⟩
  · rw [hl] at a
    exact ⟨by rw [a.2.2, want, if_neg (by omega)], hb⟩
  · rw [hl] at a
    rw [fresh_open n a.1] at a
    exact absurd a.2.1 (by simp)
set_option maxRecDepth 100000 in
set_option maxHeartbeats 4000000 in
theorem superNothing_good (n : Nat) (A : Option Addr) (l c : Nat) (w : World) (h1 : 1 ≤ n) (h2 : n ≤ 100) (hl : l ≤ 500) : Calls Try.prog 6 #[.int .i64 n, .slice A l c] w fun e w' => e = .returned (.bool true) ∧ Below w.heap.size w w' := by
  have q1 : decide ((n : Int) < 1) = false := by simp; omega
  have q2 : decide ((100 : Int) < (n : Int)) = false := by simp; omega
  have q3 : decide ((500 : Int) < (l : Int)) = false := by simp; omega
  go_enter Try.func6, Try.ntmps6
  go_wp2_with fail
  refine (dk_new n w h1 (by omega)).mono ?_
  rintro e w1 ⟨p, S, rfl, hd, hb⟩
  have HD := Lib.hid hd; have HB := Lib.hid hb
  clear hd hb
  go_wp2_with fail
  refine (open_fresh p n S w1 HD.out).mono ?_
  rintro e w2 ⟨rfl, hb⟩
  have HB2 : Hid (Below w.heap.size w w2) := Lib.hid (HB.out.trans (hb.mono HB.out.size))
  clear hb
  by_cases h4 : n < 32
  · have q4 : decide ((n : Int) < 32) = true := by simp; omega
    have hw : want n = 1 := if_pos h4
    rw [hw]
    clear hw
    go_wp2_with (first | (go_at_call 25; refine (open_nil _).mono ?_; rintro e w' ⟨rfl, rfl⟩) | (go_at_call 29; refine (format_nil _ _).mono ?_; rintro e w' ⟨rfl, rfl⟩) | (go_at_call 30; refine (commit_nil _ _).mono ?_; rintro e w' ⟨rfl, rfl⟩) | (go_at_call 27; refine (image_nil _).mono ?_; rintro e w' ⟨rfl, rfl⟩) | (go_at_call 28; refine (number_nil _).mono ?_; rintro e w' ⟨rfl, rfl⟩) | (go_at_call 32; refine (dead_nil _).mono ?_; rintro e w' ⟨rfl, rfl⟩))
    (refine (known3_any _).mono ?_; rintro e w3 ⟨rfl, hb⟩; have HB3 := Lib.hid (HB2.out.trans (hb.mono HB2.out.size)); clear hb; go_wp2_with fail; go_ret; exact ⟨rfl, HB3.out⟩)
  · have q4 : decide ((n : Int) < 32) = false := by simp; omega
    have hw : want n = 2 := if_neg h4
    rw [hw]
    clear hw
    go_wp2_with (first | (go_at_call 25; refine (open_nil _).mono ?_; rintro e w' ⟨rfl, rfl⟩) | (go_at_call 29; refine (format_nil _ _).mono ?_; rintro e w' ⟨rfl, rfl⟩) | (go_at_call 30; refine (commit_nil _ _).mono ?_; rintro e w' ⟨rfl, rfl⟩) | (go_at_call 27; refine (image_nil _).mono ?_; rintro e w' ⟨rfl, rfl⟩) | (go_at_call 28; refine (number_nil _).mono ?_; rintro e w' ⟨rfl, rfl⟩) | (go_at_call 32; refine (dead_nil _).mono ?_; rintro e w' ⟨rfl, rfl⟩))
    (refine (known3_any _).mono ?_; rintro e w3 ⟨rfl, hb⟩; have HB3 := Lib.hid (HB2.out.trans (hb.mono HB2.out.size)); clear hb; go_wp2_with fail; go_ret; exact ⟨rfl, HB3.out⟩)
set_option maxRecDepth 100000 in
set_option maxHeartbeats 4000000 in
theorem superNothing_early (n : Int) (A : Option Addr) (l c : Nat) (w : World) (h : n < 1 ∨ 100 < n ∨ 500 < l) : Calls Try.prog 6 #[.int .i64 n, .slice A l c] w fun e w' => e = .returned (.bool true) ∧ Below w.heap.size w w' := by
  by_cases h1 : n < 1
  · have q1 : decide (n < 1) = true := by simp; omega
    go_enter Try.func6, Try.ntmps6
    go_wp2_with fail
    go_ret
    exact ⟨rfl, Below.refl _ _⟩
  · have q1 : decide (n < 1) = false := by simp; omega
    by_cases h2 : 100 < n
    · have q2 : decide (100 < n) = true := by simp; omega
      go_enter Try.func6, Try.ntmps6
      go_wp2_with fail
      go_ret
      exact ⟨rfl, Below.refl _ _⟩
    · have q2 : decide (100 < n) = false := by simp; omega
      have q3 : decide ((500 : Int) < (l : Int)) = true := by simp; omega
      clear h
      go_enter Try.func6, Try.ntmps6
      go_wp2_with fail
      go_ret
      exact ⟨rfl, Below.refl _ _⟩
theorem superNothing_all (n : Int) (A : Option Addr) (l c : Nat) (w : World) : Calls Try.prog 6 #[.int .i64 n, .slice A l c] w fun e w' => e = .returned (.bool true) ∧ Below w.heap.size w w' := by
  by_cases h : n < 1 ∨ 100 < n ∨ 500 < l
  · exact superNothing_early n A l c w h
  · obtain ⟨m, rfl⟩ : ∃ m : Nat, n = m := ⟨n.toNat, by omega⟩
    exact superNothing_good m A l c w (by omega) (by omega) (by omega)
end Go.Proofs.Ythbdlfkdemjpoaa
