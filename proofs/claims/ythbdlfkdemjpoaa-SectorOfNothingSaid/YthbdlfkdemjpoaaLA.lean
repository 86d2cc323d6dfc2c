/- The walk of the law SectorOfNothing: it returns true for every input. No condition. -/
import Derived.Test.YthbdlfkdemjpoaaS10
namespace Go.Proofs.Ythbdlfkdemjpoaa
open Go.RowKit Go.Maps

set_option maxHeartbeats 400000 in
theorem copy_nil (w : World) : Calls Try.prog 41 #[.pointer none] w fun e w' => e = .returned (.pointer none) ∧ w = w' := by
  go_enter Try.func41, Try.ntmps41
  go_wp2_with fail
  go_ret
  exact ⟨rfl, rfl⟩

set_option maxRecDepth 100000 in
set_option maxHeartbeats 2000000 in
theorem nothing_good (n : Nat) (w : World) (h1 : 1 ≤ n) (h2 : n ≤ 4096) : Calls Try.prog 14 #[.int .i64 n] w fun e w' => e = .returned (.bool true) ∧ Below w.heap.size w w' := by
  have q1 : decide ((1 : Int) ≤ (n : Int)) = true := by simp; omega
  have q2 : decide ((n : Int) ≤ 4096) = true := by simp; omega
  go_enter Try.func14, Try.ntmps14
  go_wp2_with (first | (go_at_call 31; refine (read_nil _ _).mono ?_; rintro e w' ⟨rfl, rfl⟩) | (go_at_call 40; refine (fuse_nil _ _).mono ?_; rintro e w' ⟨rfl, rfl⟩) | (go_at_call 36; refine (crash_nil _ _ _ _).mono ?_; rintro e w' ⟨rfl, rfl⟩) | (go_at_call 23; refine (write_nil _ _ _ _ _).mono ?_; rintro e w' ⟨rfl, rfl⟩) | (go_at_call 35; refine (flush_nil _).mono ?_; rintro e w' ⟨rfl, rfl⟩) | (go_at_call 42; refine (len_nil _).mono ?_; rintro e w' ⟨rfl, rfl⟩) | (go_at_call 33; refine (waiting_nil _).mono ?_; rintro e w' ⟨rfl, rfl⟩) | (go_at_call 41; refine (copy_nil _).mono ?_; rintro e w' ⟨rfl, rfl⟩))
  refine (dk_new n _ h1 h2).mono ?_
  rintro e w1 ⟨p, S, rfl, hd, hb⟩
  have HB := Lib.hid hb
  clear hd hb
  go_wp2_with (first | (go_at_call 31; refine (read_nil _ _).mono ?_; rintro e w' ⟨rfl, rfl⟩) | (go_at_call 40; refine (fuse_nil _ _).mono ?_; rintro e w' ⟨rfl, rfl⟩) | (go_at_call 36; refine (crash_nil _ _ _ _).mono ?_; rintro e w' ⟨rfl, rfl⟩) | (go_at_call 23; refine (write_nil _ _ _ _ _).mono ?_; rintro e w' ⟨rfl, rfl⟩) | (go_at_call 35; refine (flush_nil _).mono ?_; rintro e w' ⟨rfl, rfl⟩) | (go_at_call 42; refine (len_nil _).mono ?_; rintro e w' ⟨rfl, rfl⟩) | (go_at_call 33; refine (waiting_nil _).mono ?_; rintro e w' ⟨rfl, rfl⟩) | (go_at_call 41; refine (copy_nil _).mono ?_; rintro e w' ⟨rfl, rfl⟩))
  refine (known2_any _).mono ?_
  rintro e w2 ⟨rfl, hb⟩
  have HB2 := Lib.hid hb
  clear hb
  go_wp2_with fail
  go_ret
  have hA : Below w.heap.size w w1 := ((Below.refl _ _).alloc (Nat.le_refl _) _).trans (HB.out.mono (by simp))
  exact ⟨rfl, (hA.alloc hA.size _).trans (HB2.out.mono (by simp; exact Nat.le_succ_of_le hA.size))⟩
set_option maxRecDepth 100000 in
set_option maxHeartbeats 2000000 in
theorem nothing_low (n : Int) (w : World) (h1 : n < 1) : Calls Try.prog 14 #[.int .i64 n] w fun e w' => e = .returned (.bool true) ∧ Below w.heap.size w w' := by
  have q1 : decide ((1 : Int) ≤ n) = false := by simp; omega
  go_enter Try.func14, Try.ntmps14
  go_wp2_with (first | (go_at_call 21; refine (new_bad n _ (.inl h1)).mono ?_; rintro e w' ⟨rfl, rfl⟩) | (go_at_call 31; refine (read_nil _ _).mono ?_; rintro e w' ⟨rfl, rfl⟩) | (go_at_call 40; refine (fuse_nil _ _).mono ?_; rintro e w' ⟨rfl, rfl⟩) | (go_at_call 36; refine (crash_nil _ _ _ _).mono ?_; rintro e w' ⟨rfl, rfl⟩) | (go_at_call 23; refine (write_nil _ _ _ _ _).mono ?_; rintro e w' ⟨rfl, rfl⟩) | (go_at_call 35; refine (flush_nil _).mono ?_; rintro e w' ⟨rfl, rfl⟩) | (go_at_call 42; refine (len_nil _).mono ?_; rintro e w' ⟨rfl, rfl⟩) | (go_at_call 33; refine (waiting_nil _).mono ?_; rintro e w' ⟨rfl, rfl⟩) | (go_at_call 41; refine (copy_nil _).mono ?_; rintro e w' ⟨rfl, rfl⟩))
  refine (known2_any _).mono ?_
  rintro e w2 ⟨rfl, hb⟩
  have HB2 := Lib.hid hb
  clear hb
  go_wp2_with fail
  go_ret
  exact ⟨rfl, (((Below.refl _ _).alloc (Nat.le_refl _) _).alloc (by simp) _).trans (HB2.out.mono (by simp; omega))⟩
set_option maxRecDepth 100000 in
set_option maxHeartbeats 2000000 in
theorem nothing_high (n : Int) (w : World) (h1 : 4096 < n) : Calls Try.prog 14 #[.int .i64 n] w fun e w' => e = .returned (.bool true) ∧ Below w.heap.size w w' := by
  have q1 : decide ((1 : Int) ≤ n) = true := by simp; omega
  have q2 : decide (n ≤ 4096) = false := by simp; omega
  go_enter Try.func14, Try.ntmps14
  go_wp2_with (first | (go_at_call 21; refine (new_bad n _ (.inr h1)).mono ?_; rintro e w' ⟨rfl, rfl⟩) | (go_at_call 31; refine (read_nil _ _).mono ?_; rintro e w' ⟨rfl, rfl⟩) | (go_at_call 40; refine (fuse_nil _ _).mono ?_; rintro e w' ⟨rfl, rfl⟩) | (go_at_call 36; refine (crash_nil _ _ _ _).mono ?_; rintro e w' ⟨rfl, rfl⟩) | (go_at_call 23; refine (write_nil _ _ _ _ _).mono ?_; rintro e w' ⟨rfl, rfl⟩) | (go_at_call 35; refine (flush_nil _).mono ?_; rintro e w' ⟨rfl, rfl⟩) | (go_at_call 42; refine (len_nil _).mono ?_; rintro e w' ⟨rfl, rfl⟩) | (go_at_call 33; refine (waiting_nil _).mono ?_; rintro e w' ⟨rfl, rfl⟩) | (go_at_call 41; refine (copy_nil _).mono ?_; rintro e w' ⟨rfl, rfl⟩))
  refine (known2_any _).mono ?_
  rintro e w2 ⟨rfl, hb⟩
  have HB2 := Lib.hid hb
  clear hb
  go_wp2_with fail
  go_ret
  exact ⟨rfl, (((Below.refl _ _).alloc (Nat.le_refl _) _).alloc (by simp) _).trans (HB2.out.mono (by simp; omega))⟩
theorem nothing_walk (n : Int) (w : World) : Calls Try.prog 14 #[.int .i64 n] w fun e w' => e = .returned (.bool true) ∧ Below w.heap.size w w' := by
  by_cases h1 : n < 1
  · exact nothing_low n w h1
  · by_cases h2 : 4096 < n
    · exact nothing_high n w h2
    · obtain ⟨m, rfl⟩ : ∃ m : Nat, n = m := ⟨n.toNat, by omega⟩
      exact nothing_good m w (by omega) (by omega)
end Go.Proofs.Ythbdlfkdemjpoaa
