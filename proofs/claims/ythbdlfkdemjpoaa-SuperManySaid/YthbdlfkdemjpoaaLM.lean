/- The walk of the law SuperMany: it returns true for every input. No condition. -/
import Derived.Test.YthbdlfkdemjpoaaBR
import Derived.Test.YthbdlfkdemjpoaaB13
namespace Go.Proofs.Ythbdlfkdemjpoaa
open Go.RowKit Go.Maps

set_option maxRecDepth 100000 in
set_option maxHeartbeats 4000000 in
theorem many_good (A : Option Addr) (l : List Row) (c : Nat) (w : World) (hA : BRows w A l) (hl : l.length ≤ 40) (hok : ∀ x ∈ l, x.length ≤ 140737488351232) : Calls Try.prog 7 #[.slice A l.length c] w fun e w' => e = .returned (.bool true) ∧ Below w.heap.size w w' := by
  have q3 : decide ((40 : Int) < (l.length : Int)) = false := by simp; omega
  have HA := Lib.hid hA; have HOK := Lib.hid hok; have HL := Lib.hid hl
  clear hA hok hl
  go_enter Try.func7, Try.ntmps7
  go_wp2_with fail
  refine (dk_new 32 w (by omega) (by omega)).mono ?_
  rintro e w1 ⟨p, S, rfl, hd, hb⟩
  have HD := Lib.hid hd; have HB := Lib.hid hb
  clear hd hb
  go_wp2_with fail
  refine (format_stand p S _ none 0 [] _ HD.out (by decide) (fun i => rfl) (by simp [freshD]) (.inl rfl) (fun h => absurd rfl h) (by simp)).mono ?_
  rintro e w2 ⟨q, S2, D2, A2, c2, rfl, hst, hb⟩
  have HB2 : Hid (Below w.heap.size w w2) := Lib.hid (HB.out.trans (hb.mono (Nat.le_refl _)))
  have HS2 := Lib.hid hst
  clear hst hb
  go_wp2_with fail
  go_loopw [7, 8, 9] (fun la nn i wr => ∃ (k : Nat) (S : Nat → Prop) (D : DS) (X : SS) (O : List Row) (A1 : Option Addr) (c1 : Nat), k ≤ l.length ∧ i = .int .i64 k ∧ la = .string ⟨X.img.toArray⟩ ∧ nn = .int .i64 X.num ∧ X.num ≤ k + 1 ∧ Hid (Stand w.heap.size wr p q S D X O A1 c1) ∧ Hid (Below w.heap.size w wr)) (fun _ _ i _ => 200 - (intOf i).toNat)
  case atStart => exact ⟨0, S2, D2, _, _, A2, c2, Nat.zero_le _, rfl, rfl, rfl, Nat.le_refl _, HS2, HB2⟩
  case round =>
    obtain ⟨k, S3, D3, X, O, A3, c3, hk, rfl, rfl, rfl, hn, HS3, HB3⟩ := hrel
    clear HS2 HB2 HD HB
    have hnum := HL.out
    by_cases hlt : k < l.length
    · have q1 : decide ((k : Int) < (l.length : Int)) = true := by simp; omega
      obtain ⟨b, o, rfl, hbl, A4, c4, g0, g1⟩ := HA.out.get k hlt
      obtain ⟨x, hx⟩ : ∃ x, x = l[k] := ⟨_, rfl⟩
      rw [← hx] at g0 g1
      have hxl : x.length ≤ 140737488351232 := by rw [hx]; exact HOK.out _ (List.getElem_mem _)
      have HFAR : Hid (x ≠ [] → ∀ b o, A4 = some ⟨b, o, none⟩ → ¬ S3 b ∧ b ≠ q) := Lib.hid fun hne b o e => by
        rcases g1 with h0 | ⟨b', o', e', hl', _⟩
        · exact absurd h0 hne
        · have : b' = b := by rw [e'] at e; cases e; rfl
          subst this
          exact ⟨fun hs => absurd (HS3.out.disk.base _ hs).1 (Nat.not_le.2 hl'), fun e => absurd HS3.out.base (by rw [← e]; exact Nat.not_le.2 hl')⟩
      have G1 := Lib.hid (g1.below HB3.out)
      have c0 : wr.cell? ⟨b, o + k, none⟩ = some (.slice A4 x.length c4) := by rw [World.cell?_of_block (HB3.out.block b hbl), g0]
      have hc0 : ∀ w4, Below w.heap.size w w4 → w4.cell? ⟨b, o + k, none⟩ = some (.slice A4 x.length c4) ∧ Bytes w4 A4 x := fun w4 hb => ⟨by rw [World.cell?_of_block (hb.block b hbl), g0], g1.below hb⟩
      have HC0 := hide hc0
      clear g0 g1 hx hc0
      by_cases hlong : 814 < x.length
      · have q2 : decide ((814 : Int) < (x.length : Int)) = true := by simp; omega
        go_wp2_with fail
        refine (commit_long p q S3 D3 X O A3 A4 c3 c4 x wr HS3.out G1.out HFAR.out hlong hxl).mono ?_
        rintro e w4 ⟨S4, A5, c5, rfl, hst, hb⟩
        have HS4 := Lib.hid hst
        have HB4 : Hid (Below w.heap.size w w4) := Lib.hid (HB3.out.trans hb)
        clear hst hb hlong HS3 HB3 HFAR G1 c0
        go_wp2_with fail
        go_round
        · exact ⟨k + 1, S4, D3, X, O, A5, c5, by omega, by simp, rfl, rfl, by omega, HS4, HB4⟩
        · simp [intOf]; omega
      · have q2 : decide ((814 : Int) < (x.length : Int)) = false := by simp; omega
        have hx8 : x.length ≤ 814 := by omega
        go_wp2_with fail
        refine (commit_stand p q S3 D3 X O A3 A4 c3 c4 x wr HS3.out G1.out HFAR.out hx8 (by omega)).mono ?_
        rintro e w4 ⟨S4, D4, A5, c5, rfl, hst, hb⟩
        have HS4 := Lib.hid hst
        have HB4 : Hid (Below w.heap.size w w4) := Lib.hid (HB3.out.trans hb)
        clear hst hb hlong HS3 HB3 HFAR c0
        have hcv : (convert 22 9 (.slice A4 x.length c4)).run Try.prog w4 = .ok (.string ⟨x.toArray⟩) w4 := conv_text w4 A4 x c4 (HC0.out w4 HB4.out).2
        have c0 : w4.cell? ⟨b, o + k, none⟩ = some (.slice A4 x.length c4) := (HC0.out w4 HB4.out).1
        go_wp2_with fail
        refine ⟨⟨k + 1, S4, D4, _, _, A5, c5, by omega, by simp, rfl, by simp, by show X.num + 1 ≤ _; omega, HS4, HB4⟩, ?_⟩
        simp [intOf]; omega
    · have q1 : decide ((k : Int) < (l.length : Int)) = false := by simp; omega
      go_wp2_with fail
      refine (open_stand p q S3 D3 X O A3 c3 wr HS3.out).mono ?_
      rintro e w4 ⟨q4, A4, c4, rfl, hq4, hm4, hb⟩
      have HB4 : Hid (Below w.heap.size w w4) := Lib.hid (HB3.out.trans (hb.mono HB3.out.size))
      have HM4 := Lib.hid hm4
      have HS4 := Lib.hid (HS3.out.below hb)
      have HXL : Hid (X.img.length ≤ 814) := Lib.hid HS3.out.holds.ok.img
      have HLV : Hid (X.dead = false) := Lib.hid HS3.out.holds.live
      clear hq4 hm4 hb HS3 HB3
      go_wp2_with fail
      refine (image_any q4 p _ X A4 c4 w4 HM4.out HXL.out).mono ?_
      rintro e w5 ⟨A5, c5, rfl, hf, hb⟩
      have HB5 : Hid (Below w.heap.size w w5) := Lib.hid (HB4.out.trans (hb.mono HB4.out.size))
      have HM5 := Lib.hid (HM4.out.below hb)
      have HS5 := Lib.hid (HS4.out.below hb)
      have hcv := conv_text w5 A5 X.img c5 hf.bytes
      clear hf hb HS4 HM4 HB4
      go_wp2_with fail
      refine (snumber_any q4 p _ X A4 c4 w5 HM5.out).mono ?_
      rintro e w6 ⟨rfl, rfl⟩
      clear hcv
      go_wp2_with fail
      refine (image_any q p _ X A3 c3 w5 HS5.out.mem HXL.out).mono ?_
      rintro e w6 ⟨A6, c6, rfl, hf, hb⟩
      have HB6 : Hid (Below w.heap.size w w6) := Lib.hid (HB5.out.trans (hb.mono HB5.out.size))
      have HS6 := Lib.hid (HS5.out.below hb)
      have hcv := conv_text w6 A6 X.img c6 hf.bytes
      clear hf hb HS5 HM5 HB5
      go_wp2_with fail
      refine (dead_any q p _ X A3 c3 w6 HS6.out.mem).mono ?_
      rintro e w7 ⟨rfl, rfl⟩
      rw [HLV.out]
      clear hcv
      go_wp2_with fail
      refine (known3_any _).mono ?_
      rintro e w7 ⟨rfl, hb⟩
      have HB7 := Lib.hid (HB6.out.trans (hb.mono HB6.out.size))
      clear hb
      go_wp2_with fail
      go_ret
      exact ⟨rfl, HB7.out⟩
theorem many_all (A : Option Addr) (l : List Row) (c : Nat) (w : World) (hA : BRows w A l) (hok : ∀ x ∈ l, x.length ≤ 140737488351232) : Calls Try.prog 7 #[.slice A l.length c] w fun e w' => e = .returned (.bool true) ∧ Below w.heap.size w w' := by
  by_cases h : l.length ≤ 40
  · exact many_good A l c w hA h hok
  · have q3 : decide ((40 : Int) < (l.length : Int)) = true := by simp; omega
    clear hA hok h
    go_enter Try.func7, Try.ntmps7
    go_wp2_with fail
    go_ret
    exact ⟨rfl, Below.refl _ _⟩
end Go.Proofs.Ythbdlfkdemjpoaa
