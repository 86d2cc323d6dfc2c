/- What package super's little and number do, and octet's Sum. No condition. -/
import Derived.Test.YthbdlfkdemjpoaaS12
import Derived.Test.YthbdlfkdemjpoaaR3
import Derived.Lib.EndianBits
namespace Go.Proofs.Ythbdlfkdemjpoaa
open Go.RowKit Go.Maps

/-! ### numbers as bytes -/
/-- A number as so many bytes, the lowest first. -/
def leB (n size : Nat) : List UInt8 := (List.range size).map fun i => UInt8.ofNat (n / 2 ^ (8 * i))
theorem leB_length (n size : Nat) : (leB n size).length = size := by simp [leB]
theorem leB_succ (n k : Nat) : leB n (k + 1) = leB n k ++ [UInt8.ofNat (n / 2 ^ (8 * k))] := by simp [leB, List.range_succ]
def numB : List UInt8 → Nat
  | [] => 0
  | c :: l => c.toNat + 256 * numB l
theorem numB_lt : ∀ l : List UInt8, numB l < 256 ^ l.length
  | [] => by simp [numB]
  | c :: l => by
    have h1 := numB_lt l
    have h2 : c.toNat < 256 := c.toNat_lt
    simp only [numB, List.length_cons, Nat.pow_succ]
    omega
theorem numB_snoc (l : List UInt8) (c : UInt8) : numB (l ++ [c]) = numB l + c.toNat * 256 ^ l.length := by
  induction l with
  | nil => simp [numB]
  | cons x l ih =>
    simp only [List.cons_append, numB, ih, List.length_cons, Nat.pow_succ, Nat.mul_add]
    rw [Nat.mul_comm 256 (c.toNat * 256 ^ l.length), Nat.mul_assoc]
    omega
theorem byte_cast (m : Nat) : (((UInt8.ofNat m).toNat : Nat) : Int) = (m : Int) % 256 := by
  have : (UInt8.ofNat m).toNat = m % 256 := UInt8.toNat_ofNat'
  rw [this]; omega
/-- k bytes are laid of size. -/
def lePart (n size k : Nat) : Array Value := (secV (leB n k ++ List.replicate (size - k) 0)).toArray
theorem lePart_zero (n size : Nat) : lePart n size 0 = zerosC size := by simp [lePart, zerosC, leB]
theorem lePart_all (n size : Nat) : lePart n size size = (secV (leB n size)).toArray := by simp [lePart]
theorem lePart_set (n size k : Nat) (hk : k < size) : (lePart n size k).setIfInBounds k (.int .u8 ((n : Int) / 2 ^ (8 * k) % 256)) = lePart n size (k + 1) := by
  obtain ⟨d, rfl⟩ : ∃ d, size = k + 1 + d := ⟨size - (k + 1), by omega⟩
  have e1 : k + 1 + d - k = d + 1 := by omega
  have e2 : k + 1 + d - (k + 1) = d := by omega
  have hb : Value.int .u8 ((n : Int) / 2 ^ (8 * k) % 256) = .int .u8 (((UInt8.ofNat (n / 2 ^ (8 * k))).toNat : Nat) : Int) := by
    rw [byte_cast]; simp
  unfold lePart
  rw [e1, e2, leB_succ, hb]
  apply Array.ext'
  simp only [Array.toList_setIfInBounds]
  simp only [secV, List.map_append, List.replicate_succ, List.map_cons, List.map_nil]
  rw [List.set_append, if_neg (by simp [leB_length])]
  simp [leB_length]

set_option maxRecDepth 100000 in
set_option maxHeartbeats 1000000 in
theorem little_any (n size : Nat) (w : World) (hs : size ≤ 8) :
    Calls Try.prog 48 #[.int .i64 n, .int .i64 size] w fun e w' => e = .returned (.slice (some ⟨w.heap.size, 0, none⟩) size size) ∧ w' = w.alloc (.cells (secV (leB n size)).toArray 5) := by
  have km := make_bytes w size (by omega)
  go_enter Try.func48, Try.ntmps48
  go_wp2_with fail
  clear km
  go_loopw [11] (fun i wr => ∃ k : Nat, k ≤ size ∧ i = .int .i64 k ∧ Hid (wr = w.alloc (.cells (lePart n size k) 5))) (fun i _ => 200 - (intOf i).toNat)
  case atStart => exact ⟨0, by omega, rfl, Lib.hid (by rw [lePart_zero])⟩
  case round =>
    obtain ⟨k, hk, rfl, HW⟩ := hrel
    by_cases hlt : k < size
    · have q1 : decide ((k : Int) < (size : Int)) = true := by simp; omega
      have q2 : (k : Int) < (size : Int) := by omega
      have hb : wr.heap[w.heap.size]? = some (.cells (lePart n size k) 5 (0, 0)) := by rw [HW.out]; exact heap_alloc_new w _
      have hu : ∃ u, wr.cell? ⟨w.heap.size, k, none⟩ = some u := by
        rw [cell_of hb]
        have : k < (lePart n size k).size := by simp [lePart, secV_length, leB_length]; omega
        exact ⟨_, Array.getElem?_eq_getElem this⟩
      have hf := frozen_of hb k
      obtain ⟨u, hu⟩ := hu
      clear hb
      go_wp2_with fail
      go_round
      · refine ⟨k + 1, by omega, by simp, Lib.hid ?_⟩
        rw [HW.out, ← lePart_set n size k hlt]
        exact World.setCell_alloc_at _ _ _ _ _ rfl
      · simp [intOf]; omega
    · have q1 : decide ((k : Int) < (size : Int)) = false := by simp; omega
      obtain rfl : size = k := by omega
      go_wp2_with fail
      go_ret
      exact ⟨rfl, by rw [HW.out, lePart_all]⟩

theorem or_step (m x k : Nat) (hk : k < 8) (hm : m < 256 ^ k) (hx : x < 256) : bits .or .u64 (m : Int) (IntKind.u64.wrap ((x : Int) * 2 ^ (8 * k))) = ((m + x * 256 ^ k : Nat) : Int) := by
  have e : (256 : Nat) ^ k = 2 ^ (8 * k) := by rw [Nat.pow_mul]
  rw [e] at hm ⊢
  have hp : (2 : Nat) ^ (8 * k) * 256 ≤ 2 ^ 64 := by
    have : (2 : Nat) ^ (8 * k) * 256 = 2 ^ (8 * k + 8) := by rw [Nat.pow_add]
    rw [this]
    exact Nat.pow_le_pow_right (by decide) (by omega)
  have hx2 : x * 2 ^ (8 * k) < 2 ^ 64 := by
    have h1 : x * 2 ^ (8 * k) ≤ 255 * 2 ^ (8 * k) := Nat.mul_le_mul_right _ (by omega)
    have h2 : 0 < (2 : Nat) ^ (8 * k) := Nat.two_pow_pos _
    omega
  have ec : ((x : Int) * 2 ^ (8 * k)) = ((x * 2 ^ (8 * k) : Nat) : Int) := by simp
  have hw : IntKind.u64.wrap ((x : Int) * 2 ^ (8 * k)) = ((x * 2 ^ (8 * k) : Nat) : Int) := by
    rw [ec]; exact wraps_u64 _ (by omega) (by exact_mod_cast hx2)
  have hm64 : m < 2 ^ 64 := by omega
  have h1 : ((m : Nat) : Int) < 2 ^ (8 * k) := by exact_mod_cast hm
  have h2 : ((m : Nat) : Int) < 2 ^ 64 := by exact_mod_cast hm64
  have h3 : ((x * 2 ^ (8 * k) : Nat) : Int) % 2 ^ (8 * k) = 0 := by exact_mod_cast Nat.mul_mod_left x (2 ^ (8 * k))
  have h4 : ((x * 2 ^ (8 * k) : Nat) : Int) < 2 ^ 64 := by exact_mod_cast hx2
  rw [hw, bits_join_low .u64 64 (by decide) wraps_u64 (8 * k) (m : Int) ((x * 2 ^ (8 * k) : Nat) : Int) (by omega) h1 h2 (by omega) h3 h4]
  simp
theorem bytes_get {w : World} {A : Option Addr} {l : List UInt8} (h : Bytes w A l) (k : Nat) (hk : k < l.length) : ∃ b o, A = some ⟨b, o, none⟩ ∧ b < w.heap.size ∧ w.cell? ⟨b, o + k, none⟩ = some (.int .u8 (l[k].toNat : Int)) := by
  rcases h with rfl | ⟨b, o, rfl, hl, hc⟩
  · simp at hk
  · exact ⟨b, o, rfl, hl, hc k _ (by simp [secV, hk])⟩
set_option maxRecDepth 100000 in
set_option maxHeartbeats 1000000 in
theorem number_any (A : Option Addr) (c : Nat) (l : List UInt8) (w : World) (hA : Bytes w A l) (hl : l.length ≤ 8) :
    Calls Try.prog 75 #[.slice A l.length c] w fun e w' => e = .returned (.int .u64 (numB l)) ∧ w = w' := by
  have HA := Lib.hid hA
  clear hA
  go_enter Try.func75, Try.ntmps75
  go_wp2_with fail
  go_loop [3, 8] (fun n i => ∃ k m : Nat, k ≤ l.length ∧ Hid (m = numB (l.take k)) ∧ n = .int .u64 m ∧ i = .int .i64 k) (fun _ i => 200 - (intOf i).toNat)
  case atStart => exact ⟨0, 0, by omega, Lib.hid (by simp [numB]), rfl, rfl⟩
  case round =>
    obtain ⟨k, m, hk, HM, rfl, rfl⟩ := hrel
    by_cases hlt : k < l.length
    · have q1 : decide ((k : Int) < (l.length : Int)) = true := by simp; omega
      have q2 : (k : Int) < (l.length : Int) := by omega
      have q3 : (8 * (k : Int)) < 64 := by omega
      obtain ⟨b, o, rfl, hbl, hc⟩ := bytes_get HA.out k hlt
      obtain ⟨x, hx⟩ : ∃ x, x = l[k].toNat := ⟨_, rfl⟩
      have hx2 : x < 256 := by rw [hx]; exact UInt8.toNat_lt _
      rw [← hx] at hc
      have HX := Lib.hid hx
      clear hx
      go_wp2_with fail
      go_round
      · have hml : m < 256 ^ k := by
          have := numB_lt (l.take k)
          rw [← HM.out, List.length_take, Nat.min_eq_left (by omega)] at this
          exact this
        refine ⟨k + 1, m + x * 256 ^ k, by omega, Lib.hid ?_, by rw [or_step m x k (by omega) hml hx2], by simp⟩
        rw [List.take_succ_eq_append_getElem hlt, numB_snoc, ← HM.out, List.length_take, Nat.min_eq_left (by omega), HX.out]
      · simp [intOf]; omega
    · have q1 : decide ((k : Int) < (l.length : Int)) = false := by simp; omega
      go_wp2_with fail
      go_ret
      exact ⟨by rw [HM.out, List.take_of_length_le (by omega)]; rfl, rfl⟩
end Go.Proofs.Ythbdlfkdemjpoaa
