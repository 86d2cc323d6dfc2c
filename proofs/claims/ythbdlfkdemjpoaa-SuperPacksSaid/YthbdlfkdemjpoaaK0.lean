/- The reference's Sum and Four. No condition. -/
import Derived.Test.YthbdlfkdemjpoaaB7
namespace Go.Proofs.Ythbdlfkdemjpoaa
open Go.RowKit Go.Maps
attribute [local go_sem ↓] Go.wp_at_zero Go.wp_at_succ

set_option maxRecDepth 100000 in
set_option maxHeartbeats 2000000 in
theorem refSum_any (A : Option Addr) (l : Row) (c : Nat) (w : World) (hA : Bytes w A l) (hl : l.length ≤ 1000000) : Calls Try.prog 52 #[.slice A l.length c] w fun e w' => e = .returned (.int .u32 (crc l)) ∧ w = w' := by
  have HA := Lib.hid hA
  clear hA
  go_enter Try.func52, Try.ntmps52
  go_wp2_with fail
  go_loop [3, 4] (fun n i => ∃ k m : Nat, k ≤ l.length ∧ Hid (m = crcF 4294967295 (l.take k)) ∧ n = .int .u32 m ∧ i = .int .i64 k) (fun _ i => 2000000 - (intOf i).toNat)
  case atStart => exact ⟨0, 4294967295, by omega, Lib.hid rfl, rfl, rfl⟩
  case round =>
    obtain ⟨j, m, hj, HM2, rfl, rfl⟩ := hrel
    by_cases hlt : j < l.length
    · have q1 : decide ((j : Int) < (l.length : Int)) = true := by simp; omega
      have q2 : (j : Int) < (l.length : Int) := by omega
      obtain ⟨b1, o1, rfl, hbl, hc1⟩ := bytes_get HA.out j hlt
      have hml : m < 4294967296 := by rw [HM2.out]; exact crcF_lt (by omega) _
      obtain ⟨x, hx⟩ : ∃ x, x = l[j].toNat := ⟨_, rfl⟩
      have hx2 : x < 256 := by rw [hx]; exact UInt8.toNat_lt _
      rw [← hx] at hc1
      have HX : Hid (crcF 4294967295 (l.take (j + 1)) = crcN 8 (m ^^^ x)) := Lib.hid (by rw [List.take_succ_eq_append_getElem hlt, crcF_snoc, ← HM2.out, hx]; rfl)
      have hxl : m ^^^ x < 4294967296 := Nat.xor_lt_two_pow (n := 32) (by omega) (by omega)
      have HYthbdlfkdemjpoaa := Lib.hid (bits_xor_u32_nat m x hml (by omega))
      clear hx
      go_wp2_with fail
      go_loop [3, 5] (fun n i => ∃ k m2 : Nat, k ≤ 8 ∧ m2 < 4294967296 ∧ Hid (m2 = crcN k (m ^^^ x)) ∧ n = .int .u32 m2 ∧ i = .int .i64 k) (fun _ i => 200 - (intOf i).toNat)
      case atStart => exact ⟨0, m ^^^ x, by omega, hxl, Lib.hid rfl, by rw [HYthbdlfkdemjpoaa.out], rfl⟩
      case round =>
        obtain ⟨k2, m2, hk2, hm2, HM3, rfl, rfl⟩ := hrel
        by_cases hlt2 : k2 < 8
        · have hand := and_one_u32 m2 hm2
          by_cases hodd : m2 % 2 = 1
          · have qo : (bits .and .u32 (m2 : Int) 1 == 1) = true := by rw [hand, hodd]; rfl
            have HST : Hid (bits .xor .u32 ((m2 : Int) / 2) 3988292384 = ((crcStep m2 : Nat) : Int)) := Lib.hid (by
              have := bits_xor_u32_nat (m2 / 2) 3988292384 (by omega) (by omega)
              unfold crcStep
              rw [if_pos hodd, ← this]
              rfl)
            clear hand
            go_wp2_with fail
            go_round
            · exact ⟨k2 + 1, crcStep m2, by omega, crcStep_lt hm2, Lib.hid (by rw [HM3.out]; rfl), by rw [HST.out], by simp⟩
            · simp [intOf]; omega
          · have qo : (bits .and .u32 (m2 : Int) 1 == 1) = false := by rw [hand]; simp; omega
            have HST : Hid (crcStep m2 = m2 / 2) := Lib.hid (if_neg hodd)
            clear hand
            go_wp2_with fail
            go_round
            · exact ⟨k2 + 1, crcStep m2, by omega, crcStep_lt hm2, Lib.hid (by rw [HM3.out]; rfl), by rw [HST.out]; rfl, by simp⟩
            · simp [intOf]; omega
        · obtain rfl : k2 = 8 := by omega
          go_wp2_with fail
          go_round
          · exact ⟨j + 1, m2, by omega, Lib.hid (by rw [HX.out, HM3.out]), rfl, by simp⟩
          · simp [intOf]; omega
    · have q1 : decide ((j : Int) < (l.length : Int)) = false := by simp; omega
      have hml : m = crcF 4294967295 l := by rw [HM2.out, List.take_of_length_le (by omega)]
      have HF : Hid (bits .xor .u32 IntKind.u32.max (m : Int) = ((crc l : Nat) : Int)) := Lib.hid (by
        rw [hml, show IntKind.u32.max = ((4294967295 : Nat) : Int) from rfl, bits_xor_u32_nat _ _ (by omega) (crcF_lt (by omega) l)]; rfl)
      clear hml
      go_wp2_with fail
      go_ret
      refine ⟨?_, rfl⟩
      show Ending.returned (.int .u32 (bits .xor .u32 IntKind.u32.max (m : Int))) = _
      rw [HF.out]
/-! ### Four -/
set_option maxRecDepth 100000 in
set_option maxHeartbeats 2000000 in
theorem refFour_any (v : Nat) (w : World) (hv : v < 4294967296) : Calls Try.prog 51 #[.int .u32 v] w fun e w' => e = .returned (.slice (some ⟨w.heap.size, 0, none⟩) 4 4) ∧ w' = w.alloc (.cells (secV (leB v 4)).toArray 5) := by
  go_enter Try.func51, Try.ntmps51
  go_wp2_with fail
  go_ret
  refine ⟨rfl, ?_⟩
  have h0 : ∀ i, ((UInt8.ofNat (v / 2 ^ (8 * i))).toNat : Int) = ((v / 2 ^ (8 * i) % 256 : Nat) : Int) := fun i => by
    have : (UInt8.ofNat (v / 2 ^ (8 * i))).toNat = v / 2 ^ (8 * i) % 256 := UInt8.toNat_ofNat'
    rw [this]
  have e : (secV (leB v 4)).toArray = #[Value.int .u8 ((v : Int) % 256), Value.int .u8 ((v : Int) / 256 % 256), Value.int .u8 ((v : Int) / 65536 % 256), Value.int .u8 ((v : Int) / 16777216)] := by
    simp only [leB_succ, secV, List.map_append, List.map_cons, List.map_nil, h0]
    simp [leB]
    omega
  rw [e]
set_option maxRecDepth 100000 in
set_option maxHeartbeats 2000000 in
theorem refEight_any (n : Nat) (w : World) : Calls Try.prog 50 #[.int .i64 n] w fun e w' => ∃ v, e = .returned v ∧ w'.ownsRow w.heap.size 5 1 v 8 (secV (leB n 8)) ∧ Below w.heap.size w w' := by
  obtain ⟨i0, hi0, z0, hz0, hz1, hz2, hz3⟩ := infoByte_parts
  have HI0 := Lib.hid hi0; have HZ0 := Lib.hid hz0; have HZ1 := Lib.hid hz1; have HZ2 := Lib.hid hz2; have HZ3 := Lib.hid hz3
  clear hi0 hz0 hz1 hz2 hz3
  go_enter Try.func50, Try.ntmps50
  go_wp2_with fail
  go_loopw [3, 4] (fun v i wr => ∃ (k : Nat) (va : Value), k ≤ 8 ∧ i = .int .i64 k ∧ va = v ∧ Hid (wr.ownsRow w.heap.size 5 1 va k (secV (leB n k))) ∧ Hid (Below w.heap.size w wr)) (fun _ i _ => 200 - (intOf i).toNat)
  case atStart => exact ⟨0, _, by omega, rfl, rfl, Lib.hid (World.ownsRow_nil _ _ _ _), Lib.hid (Below.refl _ _)⟩
  case round =>
    obtain ⟨k, va, hk, rfl, rfl, HO, HB⟩ := hrel
    by_cases hlt : k < 8
    · have p1 : decide ((k : Int) < 8) = true := decide_eq_true (by omega)
      have hbv : Value.int .u8 ((n : Int) / 2 ^ (8 * k) % 256) = .int .u8 (((UInt8.ofNat (n / 2 ^ (8 * k))).toNat : Nat) : Int) := by
        rw [byte_cast]; simp
      have HBV := Lib.hid hbv
      clear hbv
      go_wp2_with ((with_reducible refine gate_op (.call { callee := .builtin .append, args := #[.tmp 9, .tmp 16], argTypes := #[22, 22] }) rfl ?_); refine wpList_append_lies _ rfl (.tmp 9) (.tmp 16) 22 rfl w.heap.size 5 i0 z0 1 1 Try.underlying22 HI0.out HZ0.out HZ1.out HZ2.out HZ3.out (by omega) va k _ rfl (ownsRow_below HO.out (below_alloc1 wr _)) ⟨wr.heap.size, 0, none⟩ 1 1 [.int .u8 ((n : Int) / 2 ^ (8 * k) % 256)] rfl rfl (World.news_of_block (cs := #[.int .u8 ((n : Int) / 2 ^ (8 * k) % 256)]) (heap_alloc_new wr _)) (fun v hv => by simp at hv; subst hv; rfl) (by omega) (by unfold maxLen; omega) (by omega) (by simp; exact Nat.le_succ_of_le HB.out.size) (wr.heap.size + 1) (by simp) ?_; intro ga cp w7 hown1 hgrow hat hlt1)
      have hb7 : Below w.heap.size w w7 := (HB.out.alloc HB.out.size _).grown hgrow (by simp; exact Nat.le_succ_of_le HB.out.size) (fun j hj => (HO.out.lt j hj).1)
      have hap : secV (leB n k) ++ [.int .u8 ((n : Int) / 2 ^ (8 * k) % 256)] = secV (leB n (k + 1)) := by rw [leB_succ, secV_append, HBV.out]; rfl
      rw [hap] at hown1
      have HO7 := Lib.hid hown1; have HB7 := Lib.hid hb7
      clear hown1 hgrow hat hlt1 hb7 hap
      go_wp2_with fail
      go_round
      · exact ⟨k + 1, _, by omega, by simp, rfl, HO7, HB7⟩
      · simp [intOf]; omega
    · have p1 : decide ((k : Int) < 8) = false := decide_eq_false (by omega)
      obtain rfl : k = 8 := by omega
      go_wp2_with fail
      go_ret
      exact ⟨va, rfl, HO.out, HB.out⟩
end Go.Proofs.Ythbdlfkdemjpoaa
