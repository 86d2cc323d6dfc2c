/- What octet's Sum does. No condition. -/
import Derived.Test.YthbdlfkdemjpoaaB0
namespace Go.Proofs.Ythbdlfkdemjpoaa
open Go.RowKit Go.Maps

/-! ### the check sum -/
def crcStep (v : Nat) : Nat := if v % 2 = 1 then v / 2 ^^^ 3988292384 else v / 2
def crcN : Nat → Nat → Nat
  | 0, v => v
  | k + 1, v => crcStep (crcN k v)
def crcByte (v : Nat) (c : UInt8) : Nat := crcN 8 (v ^^^ c.toNat)
def crcF (v : Nat) (l : List UInt8) : Nat := l.foldl crcByte v
def crc (l : List UInt8) : Nat := 4294967295 ^^^ crcF 4294967295 l
theorem crcStep_lt {v : Nat} (h : v < 4294967296) : crcStep v < 4294967296 := by
  unfold crcStep
  split
  · exact Nat.xor_lt_two_pow (n := 32) (by omega) (by decide)
  · omega
theorem crcN_lt {v : Nat} (h : v < 4294967296) : ∀ k, crcN k v < 4294967296
  | 0 => h
  | k + 1 => crcStep_lt (crcN_lt h k)
theorem crcByte_lt {v : Nat} (h : v < 4294967296) (c : UInt8) : crcByte v c < 4294967296 :=
  crcN_lt (Nat.xor_lt_two_pow (n := 32) (by omega) (by have := c.toNat_lt; omega)) 8
theorem crcF_lt {v : Nat} (h : v < 4294967296) : ∀ l, crcF v l < 4294967296
  | [] => h
  | c :: l => crcF_lt (crcByte_lt h c) l
theorem crc_lt (l : List UInt8) : crc l < 4294967296 := Nat.xor_lt_two_pow (n := 32) (by omega) (crcF_lt (by omega) l)
theorem crcF_snoc (v : Nat) (l : List UInt8) (c : UInt8) : crcF v (l ++ [c]) = crcByte (crcF v l) c := by simp [crcF]

theorem bits_xor_u32_nat (a b : Nat) (ha : a < 4294967296) (hb : b < 4294967296) : bits .xor .u32 (a : Int) (b : Int) = ((a ^^^ b : Nat) : Int) := by
  have hx : a ^^^ b < 2 ^ 32 := Nat.xor_lt_two_pow (by omega) (by omega)
  have h1 : (BitVec.ofInt 32 (a : Int)).toNat = a := by
    rw [BitVec.ofInt_natCast, BitVec.toNat_ofNat]; exact Nat.mod_eq_of_lt (by omega)
  have h2 : (BitVec.ofInt 32 (b : Int)).toNat = b := by
    rw [BitVec.ofInt_natCast, BitVec.toNat_ofNat]; exact Nat.mod_eq_of_lt (by omega)
  show IntKind.u32.wrap ((BitVec.ofInt 32 (a : Int) ^^^ BitVec.ofInt 32 (b : Int)).toNat : Int) = _
  rw [BitVec.toNat_xor, h1, h2, IntKind.wrap_u32]
  omega
theorem bits_and_u32_nat' (a b : Nat) (ha : a < 4294967296) (hb : b < 4294967296) : bits .and .u32 (a : Int) (b : Int) = ((a &&& b : Nat) : Int) :=
  (bits_nat .u32 32 (by decide) wraps_u32 a b ha hb).1
theorem and_one_u32 (a : Nat) (ha : a < 4294967296) : bits .and .u32 (a : Int) 1 = ((a % 2 : Nat) : Int) := by
  have := bits_and_u32_nat' a 1 ha (by omega)
  rw [Nat.and_one_is_mod] at this
  exact this
theorem crc_step_bits (v : Nat) (hv : v < 4294967296) : bits .xor .u32 ((v : Int) / 2) (bits .and .u32 3988292384 (-bits .and .u32 (v : Int) 1 % 4294967296)) = ((crcStep v : Nat) : Int) := by
  have e : (v : Int) / 2 = ((v / 2 : Nat) : Int) := by omega
  rw [and_one_u32 v hv, e]
  unfold crcStep
  by_cases h : v % 2 = 1
  · rw [if_pos h, h]
    have e2 : (-((1 : Nat) : Int) % 4294967296) = ((4294967295 : Nat) : Int) := by decide
    have e3 : (3988292384 : Int) = ((3988292384 : Nat) : Int) := rfl
    have e4 : 3988292384 &&& 4294967295 = 3988292384 := by decide
    rw [e2, e3, bits_and_u32_nat' _ _ (by omega) (by omega), e4, bits_xor_u32_nat _ _ (by omega) (by omega)]
  · rw [if_neg h, show v % 2 = 0 by omega]
    have e2 : (-((0 : Nat) : Int) % 4294967296) = ((0 : Nat) : Int) := by decide
    have e3 : (3988292384 : Int) = ((3988292384 : Nat) : Int) := rfl
    rw [e2, e3, bits_and_u32_nat' _ _ (by omega) (by omega), Nat.and_zero, bits_xor_u32_nat _ _ (by omega) (by omega), Nat.xor_zero]

set_option maxRecDepth 100000 in
set_option maxHeartbeats 2000000 in
theorem sum_one (b o c : Nat) (A : Option Addr) (l : List UInt8) (c1 : Nat) (w : World) (hc : w.cell? ⟨b, o, none⟩ = some (.slice A l.length c1)) (hA : Bytes w A l) (hl : l.length ≤ 1000000) :
    Calls Try.prog 49 #[.slice (some ⟨b, o, none⟩) 1 c] w fun e w' => e = .returned (.int .u32 (crc l)) ∧ w = w' := by
  have HA := Lib.hid hA
  clear hA
  go_enter Try.func49, Try.ntmps49
  go_wp2_with fail
  go_loop [3, 10] (fun n i => ∃ k m : Nat, k ≤ 1 ∧ Hid (m = if k = 0 then 4294967295 else crcF 4294967295 l) ∧ n = .int .u32 m ∧ i = .int .i64 k) (fun _ i => 200 - (intOf i).toNat)
  case atStart => exact ⟨0, 4294967295, by omega, Lib.hid rfl, rfl, rfl⟩
  case round =>
    obtain ⟨k, m, hk, HM, rfl, rfl⟩ := hrel
    by_cases hk0 : k = 0
    · subst hk0
      obtain rfl : m = 4294967295 := HM.out
      go_wp2_with fail
      go_loop [3, 16] (fun n i => ∃ k m : Nat, k ≤ l.length ∧ Hid (m = crcF 4294967295 (l.take k)) ∧ n = .int .u32 m ∧ i = .int .i64 k) (fun _ i => 2000000 - (intOf i).toNat)
      case atStart => exact ⟨0, 4294967295, by omega, Lib.hid rfl, rfl, rfl⟩
      case round =>
        obtain ⟨j, m, hj, HM2, rfl, rfl⟩ := hrel
        by_cases hlt : j < l.length
        · have q1 : decide ((j : Int) < (l.length : Int)) = true := by simp; omega
          have q2 : (j : Int) < (l.length : Int) := by omega
          obtain ⟨b1, o1, rfl, hbl, hc1⟩ := bytes_get HA.out j hlt
          have hml : m < 4294967296 := by rw [HM2.out]; exact crcF_lt (by omega) _
          obtain ⟨x, hx⟩ : ∃ x, x = l[j].toNat := ⟨_, rfl⟩
          have hx2 : x < 256 := by rw [hx]; exact UInt8.toNat_lt _
          rw [← hx] at hc1
          have HX : Hid (crcF 4294967295 (l.take (j + 1)) = crcN 8 (m ^^^ x)) := Lib.hid (by rw [List.take_succ_eq_append_getElem hlt, crcF_snoc, ← HM2.out, hx]; rfl)
          have hxl : m ^^^ x < 4294967296 := Nat.xor_lt_two_pow (n := 32) (by omega) (by omega)
          have HYthbdlfkdemjpoaa := Lib.hid (bits_xor_u32_nat m x hml (by omega))
          clear hx
          go_wp2_with fail
          go_loop [3, 24] (fun n i => ∃ k m2 : Nat, k ≤ 8 ∧ m2 < 4294967296 ∧ Hid (m2 = crcN k (m ^^^ x)) ∧ n = .int .u32 m2 ∧ i = .int .i64 k) (fun _ i => 200 - (intOf i).toNat)
          case atStart => exact ⟨0, m ^^^ x, by omega, hxl, Lib.hid rfl, by rw [HYthbdlfkdemjpoaa.out], rfl⟩
          case round =>
            obtain ⟨k2, m2, hk2, hm2, HM3, rfl, rfl⟩ := hrel
            by_cases hlt2 : k2 < 8
            · have HST := Lib.hid (crc_step_bits m2 hm2)
              go_wp2_with fail
              go_round
              · exact ⟨k2 + 1, crcStep m2, by omega, crcStep_lt hm2, Lib.hid (by rw [HM3.out]; rfl), by rw [HST.out], by simp⟩
              · simp [intOf]; omega
            · obtain rfl : k2 = 8 := by omega
              go_wp2_with fail
              go_round
              · exact ⟨j + 1, m2, by omega, Lib.hid (by rw [HX.out, HM3.out]), rfl, by simp⟩
              · simp [intOf]; omega
        · have q1 : decide ((j : Int) < (l.length : Int)) = false := by simp; omega
          go_wp2_with fail
          go_round
          · exact ⟨1, m, by omega, Lib.hid (by rw [HM2.out, List.take_of_length_le (by omega)]; rfl), rfl, by simp⟩
          · simp [intOf]
    · obtain rfl : k = 1 := by omega
      have hml : m = crcF 4294967295 l := HM.out
      have HF : Hid (bits .xor .u32 IntKind.u32.max (m : Int) = ((crc l : Nat) : Int)) := Lib.hid (by
        rw [hml, show IntKind.u32.max = ((4294967295 : Nat) : Int) from rfl, bits_xor_u32_nat _ _ (by omega) (crcF_lt (by omega) l)]; rfl)
      clear hml
      go_wp2_with fail
      go_ret
      refine ⟨?_, rfl⟩
      show Ending.returned (.int .u32 (bits .xor .u32 IntKind.u32.max (m : Int))) = _
      rw [HF.out]
end Go.Proofs.Ythbdlfkdemjpoaa
