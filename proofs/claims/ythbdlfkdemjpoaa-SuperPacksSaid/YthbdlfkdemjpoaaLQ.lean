/- The walk of the law SuperPacks: it returns true for every input. No condition. -/
import Derived.Test.YthbdlfkdemjpoaaK1
import Derived.BigQuiet
namespace Go.Proofs.Ythbdlfkdemjpoaa
open Go.RowKit Go.Maps

set_option maxRecDepth 100000 in
set_option maxHeartbeats 4000000 in
theorem packs_good (n : Nat) (A : Option Addr) (img : Row) (c : Nat) (w : World) (hA : Bytes w A img) (h1 : 1 ≤ n) (h2 : n ≤ 1125899906842624) (hl : img.length ≤ 814) :
    Calls Try.prog 3 #[.int .i64 n, .slice A img.length c] w fun e w' => e = .returned (.bool true) ∧ Below w.heap.size w w' := by
  have q3 : decide ((2000 : Int) < (img.length : Int)) = false := decide_eq_false (by omega)
  have HA := Lib.hid hA
  clear hA
  go_enter Try.func3, Try.ntmps3
  go_wp2_with fail
  refine (pack_ok n A img c w HA.out h1 h2 hl).mono ?_
  rintro e w1 ⟨v1, gs1, cs1, rfl, hr1, hb1⟩
  have HR1 := Lib.hid hr1; have HB1 := Lib.hid hb1
  clear hr1 hb1
  go_wp2_with fail
  refine (refPack_ok n A img c w1 (HA.out.below HB1.out) h1 h2 hl).mono ?_
  rintro e w2 ⟨v2, gs2, cs2, rfl, hr2, hb2⟩
  obtain ⟨g1, cap1, rfl, hbg1, hgl1, hcc1⟩ := (HR1.out.below hb2).get (by rw [packK_length]; omega)
  obtain ⟨g2, cap2, rfl, hbg2, hgl2, hcc2⟩ := hr2.get (by rw [packK_length]; omega)
  have HE : Hid (∀ k, k < 16 → ∃ x y e f s, s.length = 64 ∧ w2.cell? ⟨g1, k, none⟩ = some (.slice (some ⟨x, 0, none⟩) 64 e) ∧ w2.cell? ⟨g2, k, none⟩ = some (.slice (some ⟨y, 0, none⟩) 64 f) ∧ Bytes w2 (some ⟨x, 0, none⟩) s ∧ Bytes w2 (some ⟨y, 0, none⟩) s) := Lib.hid fun k hk => by
    have hk1 : k < (packK n img 16).length := by rw [packK_length]; exact hk
    have hgd : (packK n img 16).getD k [] = packRow n img k := by simp [packK, List.getD_eq_getElem?_getD, hk]
    have hl64 : (packRow n img k).length = 64 := packRow_length hl hk
    have a1 := hcc1 k hk1
    have a2 := hcc2 k hk1
    have b1 := (hr2.each k hk1).1
    have b2 := ((HR1.out.below hb2).each k hk1).1
    rw [hgd] at a1 a2 b1 b2
    rw [hl64] at a1 a2
    exact ⟨gs1 k, gs2 k, cs1 k, cs2 k, packRow n img k, hl64, a1, a2, b2, b1⟩
  have HB2 : Hid (Below w.heap.size w w2) := Lib.hid (HB1.out.trans (hb2.mono HB1.out.size))
  rw [packK_length]
  clear hcc1 hcc2 hr2 hb2 hbg1 hbg2 HR1
  go_wp2_with fail
  go_loopw [7] (fun i wr => ∃ k : Nat, k ≤ 16 ∧ i = .int .i64 k ∧ Hid (Below w2.heap.size w2 wr)) (fun i _ => 200 - (intOf i).toNat)
  case atStart => exact ⟨0, by omega, rfl, Lib.hid (Below.refl _ _)⟩
  case round =>
    obtain ⟨k, hk, rfl, HB⟩ := hrel
    by_cases hlt : k < 16
    · have p1 : decide ((k : Int) < 16) = true := decide_eq_true (by omega)
      have p2 : (k : Int) < 16 := by omega
      obtain ⟨x, y, e, f, s, hsl, a1, a2, b1, b2⟩ := HE.out k hlt
      have c1 : wr.cell? ⟨g1, k, none⟩ = some (.slice (some ⟨x, 0, none⟩) 64 e) := (World.cell?_of_block (HB.out.block g1 hgl1)).trans a1
      have c2 : wr.cell? ⟨g2, k, none⟩ = some (.slice (some ⟨y, 0, none⟩) 64 f) := (World.cell?_of_block (HB.out.block g2 hgl2)).trans a2
      have k1 : ∀ n, (convert 22 9 (.slice (some ⟨x, 0, none⟩) 64 e)).run Try.prog (wr.drewN n) = .ok (.string ⟨s.toArray⟩) (wr.drewN n) := fun n => (by have h := conv_text (wr.drewN n) (some ⟨x, 0, none⟩) s e (b1.below (below_drewN HB.out n)); rwa [hsl] at h)
      have k2 : ∀ n, (convert 22 9 (.slice (some ⟨y, 0, none⟩) 64 f)).run Try.prog (wr.drewN n) = .ok (.string ⟨s.toArray⟩) (wr.drewN n) := fun n => (by have h := conv_text (wr.drewN n) (some ⟨y, 0, none⟩) s f (b2.below (below_drewN HB.out n)); rwa [hsl] at h)
      clear a1 a2 b1 b2 hsl
      go_wp2_with fail
      go_quiet (fail)
      clear c1 c2 k1 k2
      go_wp2_with fail
      go_round
      · exact ⟨k + 1, by omega, by simp, Lib.hid (below_drewN HB.out _)⟩
      · simp [intOf]; omega
    · have p1 : decide ((k : Int) < 16) = false := decide_eq_false (by omega)
      obtain rfl : k = 16 := by omega
      go_wp2_with fail
      refine (known3_any _).mono ?_
      rintro e w3 ⟨rfl, hb⟩
      have HB3 := Lib.hid ((HB2.out.trans (HB.out.mono HB2.out.size)).trans (hb.mono (Nat.le_trans HB2.out.size HB.out.size)))
      clear hb
      go_wp2_with fail
      go_ret
      exact ⟨rfl, HB3.out⟩
set_option maxHeartbeats 1000000 in
theorem refPack_bad (n : Int) (A : Option Addr) (img : Row) (c : Nat) (w : World) (h : packBad n img) (hl : img.length ≤ 1000000) :
    Calls Try.prog 19 #[.int .i64 n, .slice A img.length c] w fun e w' => e = .returned (.slice none 0 0) ∧ w = w' := by
  by_cases h1 : n < 1
  · have q1 : decide (n < 1) = true := decide_eq_true h1
    go_enter Try.func19, Try.ntmps19
    go_wp2_with fail
    go_ret
    exact ⟨rfl, rfl⟩
  · have q1 : decide (n < 1) = false := decide_eq_false h1
    by_cases h2 : 1125899906842624 < n
    · have q2 : decide (1125899906842624 < n) = true := decide_eq_true h2
      go_enter Try.func19, Try.ntmps19
      go_wp2_with fail
      go_ret
      exact ⟨rfl, rfl⟩
    · have q2 : decide (1125899906842624 < n) = false := decide_eq_false h2
      have h3 : 814 < img.length := by rcases h with h | h | h <;> omega
      have q3 : decide ((814 : Int) < (img.length : Int)) = true := decide_eq_true (by omega)
      go_enter Try.func19, Try.ntmps19
      go_wp2_with fail
      go_ret
      exact ⟨rfl, rfl⟩
set_option maxRecDepth 100000 in
set_option maxHeartbeats 4000000 in
theorem packs_bad (n : Int) (A : Option Addr) (img : Row) (c : Nat) (w : World) (h : packBad n img) (hl : img.length ≤ 2000) :
    Calls Try.prog 3 #[.int .i64 n, .slice A img.length c] w fun e w' => e = .returned (.bool true) ∧ Below w.heap.size w w' := by
  have q3 : decide ((2000 : Int) < (img.length : Int)) = false := decide_eq_false (by omega)
  have HBD := Lib.hid h
  clear h
  go_enter Try.func3, Try.ntmps3
  go_wp2_with fail
  refine (pack_bad n A img c w HBD.out (by omega)).mono ?_
  rintro e w1 ⟨rfl, rfl⟩
  go_wp2_with fail
  refine (refPack_bad n A img c w HBD.out (by omega)).mono ?_
  rintro e w1 ⟨rfl, rfl⟩
  go_wp2_with fail
  go_loopw [7] (fun i wr => i = .int .i64 0 ∧ wr = w) (fun _ _ => 0)
  case atStart => exact ⟨rfl, rfl⟩
  case round =>
    obtain ⟨rfl, rfl⟩ := hrel
    go_wp2_with fail
    refine (known3_any _).mono ?_
    rintro e w3 ⟨rfl, hb⟩
    have HB3 := Lib.hid hb
    clear hb
    go_wp2_with fail
    go_ret
    exact ⟨rfl, HB3.out⟩
theorem packs_all (n : Int) (A : Option Addr) (img : Row) (c : Nat) (w : World) (hA : Bytes w A img) :
    Calls Try.prog 3 #[.int .i64 n, .slice A img.length c] w fun e w' => e = .returned (.bool true) ∧ Below w.heap.size w w' := by
  by_cases hl : img.length ≤ 2000
  · by_cases h : packBad n img
    · exact packs_bad n A img c w h hl
    · have h' := h
      unfold packBad at h'
      obtain ⟨m, rfl⟩ : ∃ m : Nat, n = m := ⟨n.toNat, by omega⟩
      exact packs_good m A img c w hA (by omega) (by omega) (by omega)
  · have q3 : decide ((2000 : Int) < (img.length : Int)) = true := decide_eq_true (by omega)
    clear hA hl
    go_enter Try.func3, Try.ntmps3
    go_wp2_with fail
    go_ret
    exact ⟨rfl, Below.refl _ _⟩
end Go.Proofs.Ythbdlfkdemjpoaa
