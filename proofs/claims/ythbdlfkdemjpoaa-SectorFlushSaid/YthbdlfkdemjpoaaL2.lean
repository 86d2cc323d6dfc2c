/- The laws' measure of a script (winnowerlaw2.long). No condition. -/
import Derived.Test.YthbdlfkdemjpoaaP0
import Derived.Test.YthbdlfkdemjpoaaActs
import Derived.BigQuiet
namespace Go.Proofs.Ythbdlfkdemjpoaa
open Go.RowKit Go.Maps

theorem acts2_open {H : Type} {enc : TypeId × Value → H} {W : World} {spare : Nat → Bool} {a : Option Addr} {len cap : Nat} {d : DataW H} {p : List MemPlace} (hl : Light Try.prog 60 d)
    (h : DataW.Trod enc Try.prog W 0 spare true 60 (.slice a len cap) d p) : ∃ l : List AAct, l.length = len ∧ Acts W a l ∧ (len ≤ maxLen) ∧ ∀ x ∈ l, x.Ok :=
  acts_open hl Try.underlying60 Try.underlying64 rfl rfl rfl rfl rfl rfl rfl rfl Try.underlying3 Try.underlying22 Try.underlying5 Try.underlying54
    (by kernel_rfl) (by kernel_rfl) (by kernel_rfl) (by kernel_rfl) (by kernel_rfl) (by kernel_rfl) (by kernel_rfl) h

/-- How long a script is. -/
def totA (l : List AAct) : Nat := (l.map fun x => 1 + x.bytes.length + x.picks.length).sum
theorem totA_snoc (l : List AAct) (x : AAct) : totA (l ++ [x]) = totA l + (1 + x.bytes.length + x.picks.length) := by simp [totA]
theorem totA_take_succ {l : List AAct} {k : Nat} (hk : k < l.length) : totA (l.take (k + 1)) = totA (l.take k) + (1 + l[k].bytes.length + l[k].picks.length) := by
  rw [List.take_succ_eq_append_getElem hk, totA_snoc]
theorem totA_mono {l : List AAct} {k m : Nat} (h : k ≤ m) : totA (l.take k) ≤ totA (l.take m) := by
  obtain ⟨d, rfl⟩ : ∃ d, m = k + d := ⟨m - k, by omega⟩
  rw [List.take_add]
  simp only [totA, List.map_append, List.sum_append]
  omega
def longA (l : List AAct) : Bool := decide (8000 < totA (l.take 60))

set_option maxRecDepth 100000 in
set_option maxHeartbeats 2000000 in
theorem long2_any (A : Option Addr) (l : List AAct) (c : Nat) (w : World) (hA : Acts w A l) (hx : l.length ≤ maxLen) (hok : ∀ x ∈ l, x.Ok) :
    Calls Try.prog 37 #[.slice A l.length c] w fun e w' => e = .returned (.bool (longA l)) ∧ Below w.heap.size w w' := by
  have HA := Lib.hid hA; have HOK := Lib.hid hok
  have hx' : (l.length : Int) ≤ 9223372036854775807 := by unfold maxLen at hx; omega
  clear hA hok hx
  go_enter Try.func37, Try.ntmps37
  go_wp2_with fail
  go_loopw [3, 4] (fun n i wr => ∃ k t : Nat, k ≤ l.length ∧ k ≤ 60 ∧ t ≤ 8000 ∧ n = .int .i64 t ∧ i = .int .i64 k ∧ Hid (t = totA (l.take k)) ∧ Hid (Below w.heap.size w wr)) (fun _ i _ => 200 - (intOf i).toNat)
  case atStart => exact ⟨0, 0, by omega, by omega, by omega, rfl, rfl, Lib.hid (by simp [totA]), Lib.hid (Below.refl _ _)⟩
  case round =>
    obtain ⟨k, t, hk, hk60, ht, rfl, rfl, HT, HB⟩ := hrel
    by_cases hlt : k < l.length
    · by_cases h60 : k < 60
      · have q1 : decide ((k : Int) < (l.length : Int)) = true := by simp; omega
        have q2 : decide ((k : Int) < 60) = true := by simp; omega
        have hA' := HA.out.below HB.out
        obtain ⟨b, o, rfl, hbl, A1, c1, A2, c2, g0, g1, g2, g3, g4, g5⟩ := hA'.get k hlt
        have ho := HOK.out _ (List.getElem_mem hlt)
        have b1 := ho.bytes
        have b2 := ho.picks
        have HS := Lib.hid (totA_take_succ hlt)
        obtain ⟨x, hx⟩ : ∃ x, x = l[k] := ⟨_, rfl⟩
        rw [← hx] at g0 g1 g2 g3 g4 g5 b1 b2 HS
        clear hx ho g4 g5 g0 g1 hA'
        obtain ⟨nb, hnb⟩ : ∃ nb, nb = x.bytes.length := ⟨_, rfl⟩
        obtain ⟨np, hnp⟩ : ∃ np, np = x.picks.length := ⟨_, rfl⟩
        rw [← hnb] at g2 b1 HS
        rw [← hnp] at g3 b2 HS
        clear hnb hnp
        have hb' : Below w.heap.size w wr := HB.out
        by_cases h8 : 8000 < t + 1 + nb + np
        · have q3 : decide ((8000 : Int) < (t : Int) + 1 + (nb : Int) + (np : Int)) = true := by simp; omega
          have hL : longA l = true := decide_eq_true (by
            have h1 := HS.out
            have h2 := HT.out
            have h3 := totA_mono (l := l) (show k + 1 ≤ 60 by omega)
            omega)
          go_wp2_with fail
          go_quiet (fail)
          go_wp2_with fail
          go_ret
          exact ⟨by rw [hL]; rfl, ⟨HB.out.os, HB.out.tape, HB.out.output, HB.out.size, HB.out.block⟩⟩
        · have q3 : decide ((8000 : Int) < (t : Int) + 1 + (nb : Int) + (np : Int)) = false := by simp; omega
          go_wp2_with fail
          go_quiet (fail)
          go_wp2_with fail
          go_round
          · exact ⟨k + 1, t + 1 + nb + np, by omega, by omega, by omega, by simp, by simp, Lib.hid (by have h1 := HS.out; have h2 := HT.out; omega), Lib.hid ⟨HB.out.os, HB.out.tape, HB.out.output, HB.out.size, HB.out.block⟩⟩
          · simp [intOf]; omega
      · have q1 : decide ((k : Int) < (l.length : Int)) = true := by simp; omega
        have q2 : decide ((k : Int) < 60) = false := by simp; omega
        obtain rfl : k = 60 := by omega
        have hL : longA l = false := decide_eq_false (by have h2 := HT.out; omega)
        go_wp2_with fail
        go_ret
        exact ⟨by rw [hL]; rfl, HB.out⟩
    · have q1 : decide ((k : Int) < (l.length : Int)) = false := by simp; omega
      have hL : longA l = false := decide_eq_false (by
        have h2 := HT.out
        have h3 := totA_mono (l := l) (show k ≤ 60 by omega)
        rw [List.take_of_length_le (show l.length ≤ k by omega)] at h2
        rw [List.take_of_length_le (show l.length ≤ 60 by omega)]
        omega)
      go_wp2_with fail
      go_ret
      exact ⟨by rw [hL]; rfl, HB.out⟩
end Go.Proofs.Ythbdlfkdemjpoaa
