/- What the second reference's Read and Waiting answer. No condition. -/
import Derived.Test.YthbdlfkdemjpoaaR0
import Derived.Lib.ConvBytes
import Derived.Deep.AppendLies
namespace Go.Proofs.Ythbdlfkdemjpoaa
open Go.RowKit Go.Maps

theorem bytesWorld_below (w : World) (e : TypeId) (s : ByteArray) : Below w.heap.size w (Lib.bytesWorld w e s) :=
  ⟨by simp [Lib.bytesWorld, World.freeze, World.alloc, World.drew, -World.alloc_eq, -World.drew_eq], by simp [Lib.bytesWorld, World.freeze, World.alloc, World.drew, -World.alloc_eq, -World.drew_eq], by simp [Lib.bytesWorld, World.freeze, World.alloc, World.drew, -World.alloc_eq, -World.drew_eq], by rw [Lib.bytesWorld_size]; omega, fun k hk => Lib.bytesWorld_at_old w e s k hk⟩
theorem bytesWorld_bytes (w : World) (e : TypeId) (l : List UInt8) : Bytes (Lib.bytesWorld w e ⟨l.toArray⟩) (some ⟨w.heap.size, 0, none⟩) l := by
  refine .inr ⟨_, _, rfl, by rw [Lib.bytesWorld_size]; omega, fun j v hv => ?_⟩
  have hj : j < l.length := by have := (List.getElem?_eq_some_iff.1 hv).1; simpa [secV] using this
  rw [Nat.zero_add, Lib.bytesWorld_cell w e _ j (by simpa [ByteArray.size] using hj)]
  have : (secV l)[j]? = some (.int .u8 (l[j].toNat : Int)) := by simp [secV, hj]
  rw [this] at hv
  rw [← hv]
  simp [List.getD_eq_getElem?_getD, hj]

set_option maxHeartbeats 1000000 in
theorem rread_out {B : Nat} (q : Nat) (T : Nat → Prop) (D : DS) (i : Int) (w : World) (h : Rk B w q T D) (hi : i < 0 ∨ (D.lasts.length : Int) ≤ i) :
    Calls Try.prog 68 #[.pointer (some ⟨q, 0, none⟩), .int .i64 i] w fun e w' => e = .returned (.tuple #[.slice none 0 0, .int .i64 1]) ∧ w = w' := by
  obtain ⟨bo, cap, outer, gs, hm⟩ := h.mem
  have c0 := cell_of hm.own 0
  simp only [List.getElem?_toArray, List.getElem?_cons_zero] at c0
  clear h hm
  by_cases h1 : i < 0
  · have q1 : decide (i < 0) = true := by simpa using h1
    go_enter Try.func68, Try.ntmps68
    go_wp2_with fail
    go_ret2
    exact ⟨rfl, rfl⟩
  · have q1 : decide (i < 0) = false := by simp; omega
    have q2 : decide ((D.lasts.length : Int) ≤ i) = true := by simp; omega
    go_enter Try.func68, Try.ntmps68
    go_wp2_with fail
    go_ret2
    exact ⟨rfl, rfl⟩
set_option maxHeartbeats 1000000 in
theorem rread_in {B : Nat} (q : Nat) (T : Nat → Prop) (D : DS) (i : Nat) (w : World) (h : Rk B w q T D) (hi : i < D.lasts.length) (hroom : (D.waits i).length ≤ 1000000) :
    Calls Try.prog 68 #[.pointer (some ⟨q, 0, none⟩), .int .i64 i] w fun e w' => ∃ c, e = .returned (.tuple #[.slice (some ⟨w.heap.size, 0, none⟩) 64 c, .int .i64 0]) ∧ Bytes w' (some ⟨w.heap.size, 0, none⟩) (D.read i) ∧ Below w.heap.size w w' := by
  obtain ⟨bo, cap, outer, gs, hm⟩ := h.mem
  have c0 := cell_of hm.own 0
  simp only [List.getElem?_toArray, List.getElem?_cons_zero] at c0
  obtain ⟨v, hv, o, rc, cs, rfl, ho, hle, hsz, hget⟩ := hm.rows i hi
  have c1 := cell_of hm.rim i
  rw [hv] at c1
  have c2 := cell_of ho (o + (D.waits i).length)
  rw [hget (D.waits i).length (by rw [D.vers_length]; omega), D.vers_last] at c2
  unfold secS at c2
  have hrl := DS.read_length h.ok i hi
  obtain ⟨s, hs⟩ : ∃ s, s = D.read i := ⟨_, rfl⟩
  rw [← hs] at c2 hrl ⊢
  have q1 : decide ((i : Int) < 0) = false := by simp
  have q2 : decide (D.lasts.length ≤ i) = false := by simp; omega
  have q2' : decide ((D.lasts.length : Int) ≤ (i : Int)) = false := by simp; omega
  have q3 : (i : Int) < (D.lasts.length : Int) := by omega
  have hms := h.ok.most
  obtain ⟨N, hN⟩ : ∃ N, N = (D.waits i).length := ⟨_, rfl⟩
  rw [D.vers_length, ← hN] at c1
  rw [← hN] at c2 hroom
  have hcv := Lib.run_convert_string_bytes (P := Try.prog) w 9 22 5 ⟨s.toArray⟩ Try.underlying9 Try.underlying22 Try.underlying5
  have hcs : (⟨s.toArray⟩ : ByteArray).size = 64 := by simpa [ByteArray.size] using hrl
  rw [hcs] at hcv
  clear h hm ho hget hv hN hs hsz hle
  go_enter Try.func68, Try.ntmps68
  go_wp2_with fail
  go_ret2
  exact ⟨_, rfl, bytesWorld_bytes _ _ _, bytesWorld_below _ _ _⟩
end Go.Proofs.Ythbdlfkdemjpoaa
