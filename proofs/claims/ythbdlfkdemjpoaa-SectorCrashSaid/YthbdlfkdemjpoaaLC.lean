/- The walk of the law SectorCrash: it returns true for every input. No condition. -/
import Derived.Test.YthbdlfkdemjpoaaLP
namespace Go.Proofs.Ythbdlfkdemjpoaa
open Go.RowKit Go.Maps

theorem DS.crash_mem (D : DS) (picks : List Int) (i : Nat) (hi : i < D.lasts.length) : ∃ P, P < (D.vers i).length ∧ (D.vers i)[P]? = some ((D.crash picks).read i) := by
  have h := D.crash_lasts picks i hi
  have h2 : (D.crash picks).read i = (D.crash picks).lasts.getD i [] := rfl
  by_cases hw : D.waits i = []
  · refine ⟨0, by rw [D.vers_length]; omega, ?_⟩
    rw [h2, h, if_pos hw]
    rfl
  · refine ⟨D.pickOf picks i, D.pickOf_lt picks i, ?_⟩
    rw [h2, h, if_neg hw]
    exact List.getElem?_eq_getElem _
theorem DS.crash_waiting (D : DS) (picks : List Int) : (D.crash picks).waiting = [] := by
  show (List.range _).filter (fun i => !((D.crash picks).waits i).isEmpty) = []
  simp [DS.crash]
/-- Is it among the first k versions? -/
def seenIn (l : List Sec) (s : Sec) (k : Nat) : Bool := decide (s ∈ l.take k)
theorem seenIn_succ {l : List Sec} {s : Sec} {k : Nat} (hk : k < l.length) : seenIn l s (k + 1) = (seenIn l s k || l[k] == s) := by
  unfold seenIn
  rw [List.take_succ_eq_append_getElem hk, Bool.eq_iff_iff]
  simp only [List.mem_append, List.mem_singleton, decide_eq_true_eq, Bool.or_eq_true, beq_iff_eq]
  exact or_congr Iff.rfl eq_comm
theorem seenIn_all {l : List Sec} {s : Sec} {P : Nat} (h : l[P]? = some s) : seenIn l s l.length = true := by
  unfold seenIn
  rw [List.take_length]
  exact decide_eq_true (List.mem_of_getElem? h)
theorem text_beq (a b : Sec) : ((⟨a.toArray⟩ : ByteArray) == ⟨b.toArray⟩) = (a == b) := by
  rw [ba_beq, Bool.eq_iff_iff]
  simp

set_option maxRecDepth 100000 in
set_option maxHeartbeats 8000000 in
theorem crash_in (A AP : Option Addr) (l : List AAct) (picks : List Int) (c cP : Nat) (w : World) (hA : Acts w A l) (hP : Ints w AP picks) (hx : l.length ≤ maxLen) (hok : ∀ x ∈ l, x.Ok) (hlong : longA l = false) (hpl : picks.length ≤ 200) :
    Calls Try.prog 11 #[.slice A l.length c, .slice AP picks.length cP] w fun e w' => e = .returned (.bool true) ∧ Below w.heap.size w w' := by
  have HA := Lib.hid hA; have HOK := Lib.hid hok; have HX := Lib.hid hx; have HP := Lib.hid hP
  have hc := long2_any A l c w HA.out HX.out HOK.out
  rw [hlong] at hc
  have hx' : (l.length : Int) ≤ 9223372036854775807 := by unfold maxLen at hx; omega
  have q0 : decide ((200 : Int) < (picks.length : Int)) = false := by simp; omega
  clear hA hok hx hlong hP
  go_enter Try.func11, Try.ntmps11
  go_wp2_with fail
  refine hc.mono ?_
  rintro e w0 ⟨rfl, hb⟩
  have HB0 := Lib.hid hb
  clear hb hc
  go_wp2_with fail
  refine (dk_new 20 w0 (by omega) (by omega)).mono ?_
  rintro e w1 ⟨p, S, rfl, hd, hb⟩
  have HD1 := Lib.hid hd; have HB1 := Lib.hid hb
  clear hd hb
  go_wp2_with fail
  refine (rnew_ok 20 w1 (by omega) (by omega)).mono ?_
  rintro e w2 ⟨q, T, rfl, hx2, hb⟩
  have HI2 := Lib.hid (DiskStart HB0.out HD1.out HB1.out hx2 hb)
  clear hx2 hb HD1 HB1 HB0
  go_wp2_with fail
  go_loopw [9] (fun i wr => ∃ (k : Nat) (S T : Nat → Prop) (D : DS), k ≤ l.length ∧ k ≤ 60 ∧ i = .int .i64 k ∧ Hid (PlayInv w wr p q 20 k S T D)) (fun i _ => 200 - (intOf i).toNat)
  case atStart => exact ⟨0, S, T, _, by omega, by omega, rfl, HI2⟩
  case round =>
    obtain ⟨k, S, T, D, hk, hk60, rfl, HI⟩ := hrel
    by_cases hlt : k < l.length ∧ k < 60
    · obtain ⟨hlt, h60⟩ := hlt
      have q1 : decide ((k : Int) < (l.length : Int)) = true := by simp; omega
      have q2 : decide ((k : Int) < 60) = true := by simp; omega
      obtain ⟨b, o, rfl, hbl, A1, c1, A2, c2, g0, g1, g2, g3, g4, g5⟩ := HA.out.get k hlt
      have HAI := Lib.hid (actIn_of g4 g5 (HOK.out _ (List.getElem_mem hlt)) HI.out.below)
      obtain ⟨x, hx⟩ : ∃ x, x = l[k] := ⟨_, rfl⟩
      rw [← hx] at g0 g1 g2 g3 HAI
      have e : ∀ o', wr.cell? ⟨b, o', none⟩ = w.cell? ⟨b, o', none⟩ := fun o' => World.cell?_of_block (HI.out.below.block b hbl)
      rw [← e] at g0 g1 g2 g3
      clear hx g4 g5 e
      have HRM : Hid (∀ j, (D.waits j).length ≤ 1000000) := Lib.hid fun j => Nat.le_trans (HI.out.waits j) (by omega)
      go_wp2_with fail
      refine (act2_any p S q T D x A1 A2 c1 c2 _ HI.out.two HAI.out HRM.out).mono ?_
      rintro e w5 ⟨S5, T5, rfl, h2, hb⟩
      have HI5 := Lib.hid (HI.out.step x h2 hb)
      clear h2 hb HI HAI HRM
      go_wp2_with fail
      go_round
      · exact ⟨k + 1, S5, T5, _, by omega, by omega, by simp, HI5⟩
      · simp [intOf]; omega
    · clear HI2 HA HOK HX
      have HRM : Hid (∀ j, (D.waits j).length ≤ 1000000) := Lib.hid fun j => Nat.le_trans (HI.out.waits j) (by omega)
      have hex : (k < l.length ∧ decide ((k : Int) < (l.length : Int)) = true ∧ decide ((k : Int) < 60) = false) ∨ (¬ k < l.length ∧ decide ((k : Int) < (l.length : Int)) = false) := by
        by_cases h1 : k < l.length
        · exact .inl ⟨h1, decide_eq_true (by omega), decide_eq_false (by omega)⟩
        · exact .inr ⟨h1, decide_eq_false (by omega)⟩
      rcases hex with ⟨hlt1, q1, q2⟩ | ⟨hlt1, q1⟩
      all_goals
        go_wp2_with fail
        refine (dk_crashN p S D AP picks cP wr HI.out.two.d (HP.out.below HI.out.below) (fun hn b o e hS => by have := (HI.out.two.d.base b hS).1; have := ints_lo HP.out hn b o e; omega) HRM.out).mono ?_
        rintro e w5 ⟨rfl, hd, hk5⟩
        have HD5 := Lib.hid hd; have HX5 := Lib.hid (HI.out.two.left hk5 (fun k h => .inl h)).1; have HB5 := Lib.hid (HI.out.below.trans (HI.out.two.d.keptBelow hk5)); have HW := Lib.hid HI.out.wide
        clear hd hk5 HI
        go_wp2_with fail
        refine (waiting_any p S _ w5 HD5.out.at_).mono ?_
        rintro e w6 ⟨v6, rfl, hv6, hb6⟩
        rw [DS.crash_waiting] at hv6
        obtain ⟨A6, c6, hvv, _⟩ := ints_of_row (l := []) hv6
        obtain rfl : v6 = .slice A6 0 c6 := hvv
        have HD6 := Lib.hid (HD5.out.below hb6); have HX6 := Lib.hid (HX5.out.below hb6); have HB6 := Lib.hid (HB5.out.trans (hb6.mono HB5.out.size))
        clear hv6 hb6 HD5 HX5 HB5
        go_wp2_with fail
        go_loopw [10] (fun i wr => ∃ j : Nat, j ≤ 20 ∧ i = .int .i64 j ∧ Hid (Below w6.heap.size w6 wr)) (fun i _ => 200 - (intOf i).toNat)
        case atStart => exact ⟨0, by omega, rfl, Lib.hid (Below.refl _ _)⟩
        case round =>
          obtain ⟨j, hj, rfl, HBs⟩ := hrel
          obtain ⟨wo, rfl⟩ : ∃ wo : World, wo = wr := ⟨_, rfl⟩
          by_cases hj2 : j < 20
          · have p1 : decide ((j : Int) < 20) = true := by simp; omega
            have hjl : j < (D.crash picks).lasts.length := by rw [DS.crash_lasts_length, HW.out]; exact hj2
            have hjl2 : j < D.lasts.length := by rw [HW.out]; exact hj2
            have HM := Lib.hid (D.crash_mem picks j hjl2)
            have HJL := Lib.hid hjl
            have HJ2 := Lib.hid hjl2
            obtain ⟨bo, cap, outer, gs, hm⟩ := (HX6.out.below HBs.out).mem
            have HRM2 := Lib.hid hm
            have HSL := Lib.hid (DS.read_length (HD6.out.ok) j hjl)
            obtain ⟨s, hs⟩ : ∃ s, s = (D.crash picks).read j := ⟨_, rfl⟩
            have HS := Lib.hid hs
            clear hjl hjl2 hm hs
            go_wp2_with fail
            refine (read_in p S _ j _ (HD6.out.below HBs.out).at_ HJL.out).mono ?_
            rintro e w7 ⟨rfl, rfl⟩
            rw [← HS.out]
            obtain ⟨g0, hg0⟩ : ∃ g, g = wo.heap.size := ⟨_, rfl⟩
            obtain ⟨w7, hw7⟩ : ∃ w7, w7 = wo.alloc (.cells (secV s).toArray 97) := ⟨_, rfl⟩
            have HB7 : Hid (Below wo.heap.size wo w7) := Lib.hid (by rw [hw7]; exact below_alloc1 wo _)
            have HBY : Hid (Bytes w7 (some ⟨g0, 0, none⟩) s) := Lib.hid (by rw [hw7, hg0]; exact bytes_sec (heap_alloc_new wo _))
            have HR7 := Lib.hid (HRM2.out.fix fun k _ hk => HB7.out.block k hk)
            rw [← hw7, ← hg0]
            clear hw7 hg0 HRM2
            obtain ⟨L, hL⟩ : ∃ L, L = (D.vers j).length := ⟨_, rfl⟩
            have hLM : L ≤ 1000001 := by rw [hL, D.vers_length]; have := HRM.out j; omega
            have HLL := Lib.hid hL
            clear hL
            go_wp2_with fail
            go_loopw [13, 14] (fun f i wr => ∃ (m : Nat) (fb : Bool), m ≤ L ∧ i = .int .i64 m ∧ f = .bool fb ∧ Hid (fb = seenIn (D.vers j) s m) ∧ Hid (Below w7.heap.size w7 wr)) (fun _ i _ => 2000000 - (intOf i).toNat)
            case atStart => exact ⟨0, false, by omega, rfl, rfl, Lib.hid (by simp [seenIn]), Lib.hid (Below.refl _ _)⟩
            case round =>
              obtain ⟨m, fb, hm, rfl, rfl, HF, HBt⟩ := hrel
              have HR8 := Lib.hid (HR7.out.fix fun k _ hk => HBt.out.block k hk)
              have c0 := cell_of HR8.out.own 0
              simp only [List.getElem?_toArray, List.getElem?_cons_zero] at c0
              rw [HW.out] at c0
              obtain ⟨rv, hv, o, rc, cs, rfl, ho, hle, hsz, hget⟩ := HR8.out.rows j HJ2.out
              have cb : wr.cell? ⟨bo, j, none⟩ = _ := (cell_of HR8.out.rim j).trans hv
              rw [← HLL.out] at cb hle
              have q3 : (j : Int) < 20 := by omega
              by_cases hm2 : m < L
              · have p2 : decide ((m : Int) < (L : Int)) = true := by simp; omega
                have q4 : (m : Int) < (L : Int) := by omega
                have hmv : m < (D.vers j).length := by rw [← HLL.out]; exact hm2
                obtain ⟨t, ht⟩ : ∃ t, t = (D.vers j)[m] := ⟨_, rfl⟩
                have cg : wr.cell? ⟨gs j, o + m, none⟩ = some (.string ⟨t.toArray⟩) := by rw [ht]; exact (cell_of ho (o + m)).trans (hget m hmv)
                obtain ⟨g, hg⟩ : ∃ g, g = gs j := ⟨_, rfl⟩
                rw [← hg] at cb cg
                have HF2 : Hid (seenIn (D.vers j) s (m + 1) = (fb || t == s)) := Lib.hid (by rw [seenIn_succ hmv, HF.out, ht])
                have kv : ∀ n, (convert 22 9 (.slice (some ⟨g0, 0, none⟩) 64 64)).run Try.prog (wr.drewN n) = .ok (.string ⟨s.toArray⟩) (wr.drewN n) := fun n => conv_sec (wr.drewN n) g0 64 s (by rw [HS.out]; exact HSL.out) (HBY.out.below (below_drewN HBt.out n))
                clear hv ho hle hsz hget hmv ht hg
                cases fb with
                | true =>
                  go_wp2_with fail
                  go_quiet (fail)
                  go_wp2_with fail
                  go_round
                  · exact ⟨m + 1, true, by omega, by simp, rfl, Lib.hid (by rw [HF2.out]; rfl), Lib.hid (below_drewN HBt.out _)⟩
                  · simp [intOf]; omega
                | false =>
                  go_wp2_with fail
                  go_quiet (fail)
                  go_wp2_with fail
                  go_round
                  · exact ⟨m + 1, (t == s), by omega, by simp, rfl, Lib.hid (by rw [HF2.out, Bool.false_or]), Lib.hid (below_drewN HBt.out _)⟩
                  · simp [intOf]; omega
              · have p2 : decide ((m : Int) < (L : Int)) = false := by simp; omega
                obtain rfl : fb = true := by
                  rw [HF.out, show m = (D.vers j).length by have := HLL.out; omega]
                  obtain ⟨P, _, hP⟩ := HM.out
                  exact seenIn_all (by rw [HS.out]; exact hP)
                clear hv ho hle hsz hget
                go_wp2_with fail
                go_round
                · exact ⟨j + 1, by omega, by simp, Lib.hid (HBs.out.trans ((HB7.out.trans (HBt.out.mono HB7.out.size)).mono HBs.out.size))⟩
                · simp [intOf]; omega
          · have p1 : decide ((j : Int) < 20) = false := by simp; omega
            go_wp2_with fail
            refine (known2_any _).mono ?_
            rintro e w8 ⟨rfl, hb⟩
            have HB8 := Lib.hid hb
            clear hb
            go_wp2_with fail
            go_ret
            exact ⟨rfl, (HB6.out.trans (HBs.out.mono HB6.out.size)).trans (HB8.out.mono (Nat.le_trans HB6.out.size HBs.out.size))⟩
theorem crash_out (A AP : Option Addr) (l : List AAct) (picks : List Int) (c cP : Nat) (w : World) (hA : Acts w A l) (hx : l.length ≤ maxLen) (hok : ∀ x ∈ l, x.Ok) (h : longA l = true ∨ 200 < picks.length) :
    Calls Try.prog 11 #[.slice A l.length c, .slice AP picks.length cP] w fun e w' => e = .returned (.bool true) ∧ Below w.heap.size w w' := by
  have HA := Lib.hid hA; have HOK := Lib.hid hok; have HX := Lib.hid hx
  clear hA hok hx
  obtain ⟨lg, hlg⟩ : ∃ b, longA l = b := ⟨_, rfl⟩
  have hc := long2_any A l c w HA.out HX.out HOK.out
  rw [hlg] at hc h
  cases lg with
  | true =>
    go_enter Try.func11, Try.ntmps11
    go_wp2_with fail
    refine hc.mono ?_
    rintro e w1 ⟨rfl, hb⟩
    have HB := Lib.hid hb
    clear hb
    go_wp2_with fail
    go_ret
    exact ⟨rfl, HB.out⟩
  | false =>
    have h' : 200 < picks.length := by simpa using h
    have q : decide ((200 : Int) < (picks.length : Int)) = true := decide_eq_true (by omega)
    go_enter Try.func11, Try.ntmps11
    go_wp2_with fail
    refine hc.mono ?_
    rintro e w1 ⟨rfl, hb⟩
    have HB := Lib.hid hb
    clear hb
    go_wp2_with fail
    go_ret
    exact ⟨rfl, HB.out⟩
theorem crash_all (A AP : Option Addr) (l : List AAct) (picks : List Int) (c cP : Nat) (w : World) (hA : Acts w A l) (hP : Ints w AP picks) (hx : l.length ≤ maxLen) (hok : ∀ x ∈ l, x.Ok) :
    Calls Try.prog 11 #[.slice A l.length c, .slice AP picks.length cP] w fun e w' => e = .returned (.bool true) ∧ Below w.heap.size w w' := by
  by_cases h : longA l = true ∨ 200 < picks.length
  · exact crash_out A AP l picks c cP w hA hx hok h
  · have hl : longA l = false := by cases hl : longA l <;> simp_all
    exact crash_in A AP l picks c cP w hA hP hx hok hl (by have h2 : ¬ 200 < picks.length := fun h' => h (.inr h')
                                                           omega)
end Go.Proofs.Ythbdlfkdemjpoaa
