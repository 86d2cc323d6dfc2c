/- The walk of the law SectorFlush: it returns true for every input. No condition. -/
import Derived.Test.YthbdlfkdemjpoaaLP
import Derived.Test.YthbdlfkdemjpoaaS12
namespace Go.Proofs.Ythbdlfkdemjpoaa
open Go.RowKit Go.Maps

theorem DS.flush_clean (D : DS) (i : Nat) : D.flush.waits i = [] := rfl
theorem DS.crash_clean {D : DS} (h : ∀ i, D.waits i = []) (picks : List Int) (i : Nat) : (D.crash picks).read i = D.read i := by
  have h1 := DS.crash_read_off picks (h i)
  rw [h1]
  unfold DS.read
  rw [h i]; rfl

set_option maxRecDepth 100000 in
set_option maxHeartbeats 8000000 in
theorem flush_in (A AP : Option Addr) (l : List AAct) (picks : List Int) (c cP : Nat) (w : World) (hA : Acts w A l) (hP : Ints w AP picks) (hx : l.length ≤ maxLen) (hok : ∀ x ∈ l, x.Ok) (hlong : longA l = false) (hpl : picks.length ≤ 200) :
    Calls Try.prog 13 #[.slice A l.length c, .slice AP picks.length cP] w fun e w' => e = .returned (.bool true) ∧ Below w.heap.size w w' := by
  have HA := Lib.hid hA; have HOK := Lib.hid hok; have HX := Lib.hid hx; have HP := Lib.hid hP
  have hc := long2_any A l c w HA.out HX.out HOK.out
  rw [hlong] at hc
  have hx' : (l.length : Int) ≤ 9223372036854775807 := by unfold maxLen at hx; omega
  have q0 : decide ((200 : Int) < (picks.length : Int)) = false := by simp; omega
  clear hA hok hx hlong hP
  go_enter Try.func13, Try.ntmps13
  go_wp2_with fail
  refine hc.mono ?_
  rintro e w0 ⟨rfl, hb⟩
  have HB0 := Lib.hid hb
  clear hb hc
  go_wp2_with fail
  refine (dk_new 20 w0 (by omega) (by omega)).mono ?_
  rintro e w1 ⟨p, S, rfl, hd, hb⟩
  have HD1 := Lib.hid hd; have HB1 := Lib.hid hb
  clear hd hb
  go_wp2_with fail
  refine (rnew_ok 20 w1 (by omega) (by omega)).mono ?_
  rintro e w2 ⟨q, T, rfl, hx2, hb⟩
  have HI2 := Lib.hid (DiskStart HB0.out HD1.out HB1.out hx2 hb)
  clear hx2 hb HD1 HB1 HB0
  go_wp2_with fail
  go_loopw [9] (fun i wr => ∃ (k : Nat) (S T : Nat → Prop) (D : DS), k ≤ l.length ∧ k ≤ 60 ∧ i = .int .i64 k ∧ Hid (PlayInv w wr p q 20 k S T D)) (fun i _ => 200 - (intOf i).toNat)
  case atStart => exact ⟨0, S, T, _, by omega, by omega, rfl, HI2⟩
  case round =>
    obtain ⟨k, S, T, D, hk, hk60, rfl, HI⟩ := hrel
    by_cases hlt : k < l.length ∧ k < 60
    · obtain ⟨hlt, h60⟩ := hlt
      have q1 : decide ((k : Int) < (l.length : Int)) = true := by simp; omega
      have q2 : decide ((k : Int) < 60) = true := by simp; omega
      obtain ⟨b, o, rfl, hbl, A1, c1, A2, c2, g0, g1, g2, g3, g4, g5⟩ := HA.out.get k hlt
      have HAI := Lib.hid (actIn_of g4 g5 (HOK.out _ (List.getElem_mem hlt)) HI.out.below)
      obtain ⟨x, hx⟩ : ∃ x, x = l[k] := ⟨_, rfl⟩
      rw [← hx] at g0 g1 g2 g3 HAI
      have e : ∀ o', wr.cell? ⟨b, o', none⟩ = w.cell? ⟨b, o', none⟩ := fun o' => World.cell?_of_block (HI.out.below.block b hbl)
      rw [← e] at g0 g1 g2 g3
      clear hx g4 g5 e
      have HRM : Hid (∀ j, (D.waits j).length ≤ 1000000) := Lib.hid fun j => Nat.le_trans (HI.out.waits j) (by omega)
      go_wp2_with fail
      refine (act2_any p S q T D x A1 A2 c1 c2 _ HI.out.two HAI.out HRM.out).mono ?_
      rintro e w5 ⟨S5, T5, rfl, h2, hb⟩
      have HI5 := Lib.hid (HI.out.step x h2 hb)
      clear h2 hb HI HAI HRM
      go_wp2_with fail
      go_round
      · exact ⟨k + 1, S5, T5, _, by omega, by omega, by simp, HI5⟩
      · simp [intOf]; omega
    · clear HI2 HA HOK HX
      have HRM : Hid (∀ j, (D.waits j).length ≤ 1000000) := Lib.hid fun j => Nat.le_trans (HI.out.waits j) (by omega)
      have hex : (k < l.length ∧ decide ((k : Int) < (l.length : Int)) = true ∧ decide ((k : Int) < 60) = false) ∨ (¬ k < l.length ∧ decide ((k : Int) < (l.length : Int)) = false) := by
        by_cases h1 : k < l.length
        · exact .inl ⟨h1, decide_eq_true (by omega), decide_eq_false (by omega)⟩
        · exact .inr ⟨h1, decide_eq_false (by omega)⟩
      rcases hex with ⟨hlt1, q1, q2⟩ | ⟨hlt1, q1⟩
      all_goals
        go_wp2_with fail
        refine (dk_fuse p S D (-1) wr HI.out.two.d (by omega)).mono ?_
        rintro e w5 ⟨rfl, hd, hk5⟩
        have HD5 : Hid (Dk w.heap.size w5 p S (D.fused (-1))) := Lib.hid hd
        have HB5 := Lib.hid (HI.out.below.trans (HI.out.two.d.keptBelow hk5)); have HW := Lib.hid HI.out.wide
        clear hd hk5 HI
        go_wp2_with fail
        refine (dk_flush p S _ w5 HD5.out (by show (if (-1 : Int) < -1 then (-1 : Int) else -1) ≠ 0; decide) HRM.out).mono ?_
        rintro e w6 ⟨rfl, hd, hk6⟩
        have HD6 := Lib.hid hd; have HB6 := Lib.hid (HB5.out.trans (HD5.out.keptBelow hk6))
        clear hd hk6 HD5 HB5
        obtain ⟨F, hF⟩ : ∃ F, F = (D.fused (-1)).flush := ⟨_, rfl⟩
        have HFC : Hid (∀ i, F.waits i = []) := Lib.hid fun i => by rw [hF]; rfl
        have HFL : Hid (F.lasts.length = 20) := Lib.hid (by rw [hF, DS.flush_lasts_length]; exact HW.out)
        rw [← hF] at HD6
        clear hF
        go_wp2_with fail
        refine (copy_clean p S F w6 HD6.out.at_ HFC.out).mono ?_
        rintro e w7 ⟨pc, bl, bm, cap, cs, rfl, hL, hb⟩
        have HD7 := Lib.hid (HD6.out.below hb); have HB7 := Lib.hid (HB6.out.trans (hb.mono HB6.out.size)); have HL7 := Lib.hid hL; have HSZ := Lib.hid hb.size
        clear hL hb
        go_wp2_with fail
        refine (dk_crashN p S F AP picks cP w7 HD7.out (HP.out.below HB7.out) (fun hn b o e hS => by have := (HD7.out.base b hS).1; have := ints_lo HP.out hn b o e; omega) (fun i => by rw [HFC.out i]; simp)).mono ?_
        rintro e w8 ⟨rfl, hd, hk8⟩
        have HD8 := Lib.hid hd; have HB8 := Lib.hid (HB7.out.trans (HD7.out.keptBelow hk8))
        have HL8 := Lib.hid (HL7.out.fix (w' := w8) fun k hk hl => hk8.block k hl (fun hs => by have := (HD6.out.base k hs).2; omega))
        clear hd hk8 HD7 HB7 HL7 HD6 HB6
        go_wp2_with fail
        go_loopw [11] (fun i wr => ∃ j : Nat, j ≤ 20 ∧ i = .int .i64 j ∧ Hid (Below w8.heap.size w8 wr)) (fun i _ => 200 - (intOf i).toNat)
        case atStart => exact ⟨0, by omega, rfl, Lib.hid (Below.refl _ _)⟩
        case round =>
          obtain ⟨j, hj, rfl, HBs⟩ := hrel
          obtain ⟨wo, rfl⟩ : ∃ wo : World, wo = wr := ⟨_, rfl⟩
          by_cases hj2 : j < 20
          · have p1 : decide ((j : Int) < 20) = true := by simp; omega
            have HJ1 : Hid (j < (F.crash picks).lasts.length) := Lib.hid (by rw [DS.crash_lasts_length, HFL.out]; exact hj2)
            have HJ2 : Hid (j < F.lasts.length) := Lib.hid (by rw [HFL.out]; exact hj2)
            have HSL := Lib.hid (DS.read_length HL8.out.ok j HJ2.out)
            have HEQ := Lib.hid (DS.crash_clean HFC.out picks j)
            obtain ⟨s, hs⟩ : ∃ s, s = F.read j := ⟨_, rfl⟩
            have HS := Lib.hid hs
            clear hs
            go_wp2_with fail
            refine (read_in p S _ j _ (HD8.out.below HBs.out).at_ HJ1.out).mono ?_
            rintro e w9 ⟨rfl, rfl⟩
            rw [HEQ.out, ← HS.out]
            go_wp2_with fail
            refine (loose_read pc bl bm cap F cs j _ ((HL8.out.below HBs.out).below (below_alloc1 wo _)) HJ2.out).mono ?_
            rintro e w10 ⟨rfl, rfl⟩
            rw [← HS.out]
            have hl : s.length = 64 := by rw [HS.out]; exact HSL.out
            have k1 := conv_sec ((wo.alloc (.cells (secV s).toArray 97)).alloc (.cells (secV s).toArray 97)) wo.heap.size 64 s hl ((bytes_sec (heap_alloc_new wo _)).below (below_alloc1 _ _))
            have k2 := conv_sec ((wo.alloc (.cells (secV s).toArray 97)).alloc (.cells (secV s).toArray 97)) (wo.heap.size + 1) 64 s hl (bytes_sec (by rw [show wo.heap.size + 1 = (wo.alloc (.cells (secV s).toArray 97)).heap.size by simp]; exact heap_alloc_new _ _))
            clear hl
            go_wp2_with fail
            go_round
            · exact ⟨j + 1, by omega, by simp, Lib.hid (alloc_below_of _ (alloc_below_of _ HBs.out (Nat.le_refl _)) (Nat.le_refl _))⟩
            · simp [intOf]; omega
          · have p1 : decide ((j : Int) < 20) = false := by simp; omega
            go_wp2_with fail
            refine (loose_waiting pc bl bm cap F cs wo (HL8.out.below HBs.out)).mono ?_
            rintro e w9 ⟨v9, rfl, hv9, hb9⟩
            obtain ⟨A9, c9, hvv, _⟩ := ints_of_row (l := []) hv9
            obtain rfl : v9 = .slice A9 0 c9 := hvv
            have HB9 := Lib.hid hb9
            clear hv9 hb9
            go_wp2_with fail
            refine (known2_any _).mono ?_
            rintro e w10 ⟨rfl, hb⟩
            have HB10 := Lib.hid hb
            clear hb
            go_wp2_with fail
            go_ret
            have s1 := Nat.le_trans HB8.out.size HBs.out.size
            exact ⟨rfl, ((HB8.out.trans (HBs.out.mono HB8.out.size)).trans (HB9.out.mono s1)).trans (HB10.out.mono (Nat.le_trans s1 HB9.out.size))⟩
theorem flush_out (A AP : Option Addr) (l : List AAct) (picks : List Int) (c cP : Nat) (w : World) (hA : Acts w A l) (hx : l.length ≤ maxLen) (hok : ∀ x ∈ l, x.Ok) (h : longA l = true ∨ 200 < picks.length) :
    Calls Try.prog 13 #[.slice A l.length c, .slice AP picks.length cP] w fun e w' => e = .returned (.bool true) ∧ Below w.heap.size w w' := by
  have HA := Lib.hid hA; have HOK := Lib.hid hok; have HX := Lib.hid hx
  clear hA hok hx
  obtain ⟨lg, hlg⟩ : ∃ b, longA l = b := ⟨_, rfl⟩
  have hc := long2_any A l c w HA.out HX.out HOK.out
  rw [hlg] at hc h
  cases lg with
  | true =>
    go_enter Try.func13, Try.ntmps13
    go_wp2_with fail
    refine hc.mono ?_
    rintro e w1 ⟨rfl, hb⟩
    have HB := Lib.hid hb
    clear hb
    go_wp2_with fail
    go_ret
    exact ⟨rfl, HB.out⟩
  | false =>
    have h' : 200 < picks.length := by simpa using h
    have q : decide ((200 : Int) < (picks.length : Int)) = true := decide_eq_true (by omega)
    go_enter Try.func13, Try.ntmps13
    go_wp2_with fail
    refine hc.mono ?_
    rintro e w1 ⟨rfl, hb⟩
    have HB := Lib.hid hb
    clear hb
    go_wp2_with fail
    go_ret
    exact ⟨rfl, HB.out⟩
theorem flush_all (A AP : Option Addr) (l : List AAct) (picks : List Int) (c cP : Nat) (w : World) (hA : Acts w A l) (hP : Ints w AP picks) (hx : l.length ≤ maxLen) (hok : ∀ x ∈ l, x.Ok) :
    Calls Try.prog 13 #[.slice A l.length c, .slice AP picks.length cP] w fun e w' => e = .returned (.bool true) ∧ Below w.heap.size w w' := by
  by_cases h : longA l = true ∨ 200 < picks.length
  · exact flush_out A AP l picks c cP w hA hx hok h
  · have hl : longA l = false := by cases hl : longA l <;> simp_all
    exact flush_in A AP l picks c cP w hA hP hx hok hl (by have h2 : ¬ 200 < picks.length := fun h' => h (.inr h')
                                                           omega)
end Go.Proofs.Ythbdlfkdemjpoaa
