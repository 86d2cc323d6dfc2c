/- What the sector package's Len, burnt, burns, Fuse and Read do. No condition. -/
import Derived.Test.YthbdlfkdemjpoaaS0
namespace Go.Proofs.Ythbdlfkdemjpoaa
open Go.RowKit Go.Maps

set_option maxHeartbeats 400000 in
theorem new_low (n : Int) (w : World) (h1 : n < 1) : Calls Try.prog 21 #[.int .i64 n] w fun e w' => e = .returned (.tuple #[.pointer none, .int .i64 1]) ∧ w = w' := by
  have q3 : decide (n < 1) = true := by simp; omega
  clear h1
  go_enter Try.func21, Try.ntmps21
  go_wp2_with fail
  go_ret2
  exact ⟨rfl, rfl⟩
set_option maxHeartbeats 400000 in
theorem new_high (n : Int) (w : World) (h1 : 4096 < n) : Calls Try.prog 21 #[.int .i64 n] w fun e w' => e = .returned (.tuple #[.pointer none, .int .i64 1]) ∧ w = w' := by
  have q3 : decide (n < 1) = false := by simp; omega
  have q4 : decide (4096 < n) = true := by simp; omega
  clear h1
  go_enter Try.func21, Try.ntmps21
  go_wp2_with fail
  go_ret2
  exact ⟨rfl, rfl⟩
theorem new_bad (n : Int) (w : World) (h1 : n < 1 ∨ 4096 < n) : Calls Try.prog 21 #[.int .i64 n] w fun e w' => e = .returned (.tuple #[.pointer none, .int .i64 1]) ∧ w = w' := by
  rcases h1 with h | h
  · exact new_low n w h
  · exact new_high n w h

set_option maxHeartbeats 400000 in
theorem len_nil (w : World) : Calls Try.prog 42 #[.pointer none] w fun e w' => e = .returned (.int .i64 0) ∧ w = w' := by
  go_enter Try.func42, Try.ntmps42
  go_wp2_with fail
  go_ret
  exact ⟨rfl, rfl⟩
set_option maxHeartbeats 400000 in
theorem len_core (p bl n cap : Nat) (w : World) (c0 : w.cell? ⟨p, 0, none⟩ = some (.slice (some ⟨bl, 0, none⟩) n cap)) : Calls Try.prog 42 #[.pointer (some ⟨p, 0, none⟩)] w fun e w' => e = .returned (.int .i64 n) ∧ w = w' := by
  go_enter Try.func42, Try.ntmps42
  go_wp2_with fail
  go_ret
  exact ⟨rfl, rfl⟩
set_option maxHeartbeats 400000 in
theorem len_any (p : Nat) (S : Nat → Prop) (D : DS) (w : World) (h : DiskAt w p S D) : Calls Try.prog 42 #[.pointer (some ⟨p, 0, none⟩)] w fun e w' => e = .returned (.int .i64 D.lasts.length) ∧ w = w' := by
  obtain ⟨_, bl, bm, clock, rs, h⟩ := h
  have c0 := cell_of h.own 0
  simp only [List.getElem?_toArray, List.getElem?_cons_zero] at c0
  clear h
  go_enter Try.func42, Try.ntmps42
  go_wp2_with fail
  go_ret
  exact ⟨rfl, rfl⟩

set_option maxHeartbeats 400000 in
theorem burnt_nil (w : World) : Calls Try.prog 53 #[.pointer none] w fun e w' => e = .returned (.int .i64 1) ∧ w = w' := by
  go_enter Try.func53, Try.ntmps53
  go_wp2_with fail
  go_ret
  exact ⟨rfl, rfl⟩
/-- Why nothing is done any more. -/
def DS.burnt (D : DS) : Int := if D.fuse = 0 then 6 else 0
set_option maxHeartbeats 400000 in
theorem burnt_any (p : Nat) (S : Nat → Prop) (D : DS) (w : World) (h : DiskAt w p S D) : Calls Try.prog 53 #[.pointer (some ⟨p, 0, none⟩)] w fun e w' => e = .returned (.int .i64 D.burnt) ∧ w = w' := by
  obtain ⟨_, bl, bm, clock, rs, h⟩ := h
  have c0 := cell_of h.own 2
  simp only [List.getElem?_toArray, List.getElem?_cons_succ, List.getElem?_cons_zero] at c0
  clear h
  unfold DS.burnt
  by_cases hf : D.fuse = 0
  · have hq : (D.fuse == 0) = true := by simp [hf]
    rw [if_pos hf]
    clear hf
    go_enter Try.func53, Try.ntmps53
    go_wp2_with fail
    go_ret
    exact ⟨rfl, rfl⟩
  · have hq : (D.fuse == 0) = false := by simp [hf]
    rw [if_neg hf]
    clear hf
    go_enter Try.func53, Try.ntmps53
    go_wp2_with fail
    go_ret
    exact ⟨rfl, rfl⟩

def DS.burn (D : DS) : DS := { D with fuse := if 0 < D.fuse then D.fuse - 1 else D.fuse }
theorem DiskAt.setFuse {w : World} {p : Nat} {S : Nat → Prop} {D : DS} (h : DiskAt w p S D) (f : Int) (h1 : -1 ≤ f) (h2 : f ≤ 9223372036854775807) :
    DiskAt (w.setCell ⟨p, 2, none⟩ (.int .i64 f)) p S { D with fuse := f } := by
  obtain ⟨ho, bl, bm, clock, rs, h⟩ := h
  have hlb : bl ≠ p := fun e => by have a := h.lasts; rw [e, h.own] at a; injection a with a; injection a with _ a; exact absurd a (by decide)
  have hmb : bm ≠ p := fun e => by have a := h.map; rw [e, h.own] at a; cases a
  refine ⟨⟨ho.some, ho.most, ho.wide, ho.wide', ho.inside, h1, h2⟩, bl, bm, clock, rs, ?_, ?_, ?_, fun i => ?_, h.rows, h.nodup, h.apart, h.born, h.since, h.few, h.sp, h.sl, h.sm⟩
  · simp only [World.setCell, Array.getElem?_modify, if_true, h.own, Option.map_some]; rfl
  · rw [Below.heap_setCell _ _ _ _ hlb]; exact h.lasts
  · rw [Below.heap_setCell _ _ _ _ hmb]; exact h.map
  · rcases h.keys i with hk | ⟨h0, g, cap, hf, hw⟩
    · exact .inl hk
    · refine .inr ⟨h0, g, cap, hf, hw.1, ?_⟩
      rcases hw.2 with ho2 | ⟨g', cap', cur, hv, h1, h2, h3⟩
      · exact .inl ho2
      · cases hv
        have : g ≠ p := fun e => by rw [e, h.own] at h2; injection h2 with a; injection a with _ a; exact absurd a (by decide)
        exact .inr ⟨g, cap, cur, rfl, h1, by rw [Below.heap_setCell _ _ _ _ this]; exact h2, h3⟩
theorem setFuse_kept {w : World} {p : Nat} {S : Nat → Prop} {D : DS} (h : DiskAt w p S D) (f : Int) : Kept S w (w.setCell ⟨p, 2, none⟩ (.int .i64 f)) := by
  obtain ⟨_, _, _, _, _, h⟩ := h
  exact (Kept.refl S w).setCell _ _ (fun _ => h.sp)

set_option maxHeartbeats 400000 in
theorem burns_any (p : Nat) (S : Nat → Prop) (D : DS) (w : World) (h : DiskAt w p S D) : Calls Try.prog 54 #[.pointer (some ⟨p, 0, none⟩)] w fun e w' => e = .returned (.tuple #[]) ∧ DiskAt w' p S D.burn ∧ Kept S w w' := by
  have HD := Lib.hid h
  obtain ⟨ho, bl, bm, clock, rs, h⟩ := h
  have c0 := cell_of h.own 2
  have f0 := frozen_of h.own 2
  simp only [List.getElem?_toArray, List.getElem?_cons_succ, List.getElem?_cons_zero] at c0
  obtain ⟨b1, b2⟩ := ho.fuse
  clear h ho
  by_cases hf : 0 < D.fuse
  · have HE : Hid (D.burn = { D with fuse := D.fuse - 1 }) := by show _ = _; simp [DS.burn, hf]
    rw [HE.out]
    go_enter Try.func54, Try.ntmps54
    go_wp2_with fail
    go_end0
    exact ⟨rfl, HD.out.setFuse _ (by omega) (by omega), setFuse_kept HD.out _⟩
  · have HE : Hid (D.burn = D) := by show _ = _; simp [DS.burn, hf]
    rw [HE.out]
    go_enter Try.func54, Try.ntmps54
    go_wp2_with fail
    go_end0
    exact ⟨rfl, HD.out, Kept.refl _ _⟩

set_option maxHeartbeats 400000 in
theorem fuse_nil (n : Int) (w : World) : Calls Try.prog 40 #[.pointer none, .int .i64 n] w fun e w' => e = .returned (.tuple #[]) ∧ w = w' := by
  go_enter Try.func40, Try.ntmps40
  go_wp2_with fail
  go_end0
  exact ⟨rfl, rfl⟩
set_option maxHeartbeats 400000 in
theorem fuse_any (p : Nat) (S : Nat → Prop) (D : DS) (n : Int) (w : World) (h : DiskAt w p S D) (hn : n ≤ 9223372036854775807) :
    Calls Try.prog 40 #[.pointer (some ⟨p, 0, none⟩), .int .i64 n] w fun e w' => e = .returned (.tuple #[]) ∧ DiskAt w' p S { D with fuse := if n < -1 then -1 else n } ∧ Kept S w w' := by
  have HD := Lib.hid h
  obtain ⟨ho, bl, bm, clock, rs, h⟩ := h
  have c0 := cell_of h.own 2
  have f0 := frozen_of h.own 2
  simp only [List.getElem?_toArray, List.getElem?_cons_succ, List.getElem?_cons_zero] at c0
  clear h ho
  by_cases hl : n < -1
  · rw [if_pos hl]
    go_enter Try.func40, Try.ntmps40
    go_wp2_with fail
    go_end0
    exact ⟨rfl, HD.out.setFuse _ (by omega) (by omega), setFuse_kept HD.out _⟩
  · rw [if_neg hl]
    have hl' : -1 ≤ n := by omega
    clear hl
    go_enter Try.func40, Try.ntmps40
    go_wp2_with fail
    all_goals
      go_end0
      exact ⟨rfl, HD.out.setFuse _ (by omega) (by omega), setFuse_kept HD.out _⟩
end Go.Proofs.Ythbdlfkdemjpoaa
