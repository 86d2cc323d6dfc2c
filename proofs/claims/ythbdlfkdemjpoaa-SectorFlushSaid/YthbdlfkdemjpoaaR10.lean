/- An act of whatever kind; two disks that are the same are found the same. No condition. -/
import Derived.Test.YthbdlfkdemjpoaaR9
namespace Go.Proofs.Ythbdlfkdemjpoaa
open Go.RowKit Go.Maps

set_option maxRecDepth 100000 in
set_option maxHeartbeats 2000000 in
theorem act2_other {B : Nat} (p : Nat) (S : Nat → Prop) (q : Nat) (T : Nat → Prop) (D : DS) (k i : Int) (A1 A2 : Option Addr) (n1 n2 c1 c2 : Nat) (w : World) (h : Two B w p S q T D) (h1 : k ≠ 1) (h2 : k ≠ 2) (h3 : k ≠ 3) (h4 : k ≠ 4) (h5 : k ≠ 5) :
    Calls Try.prog 38 #[.pointer (some ⟨p, 0, none⟩), .pointer (some ⟨q, 0, none⟩), .agg #[.int .i64 k, .int .i64 i, .slice A1 n1 c1, .slice A2 n2 c2]] w (Acted B p q w D) := by
  have H := Lib.hid h
  have HVW : Hid (∀ o, Below w.heap.size w (w.alloc o)) := Lib.hid fun o => below_alloc1 w o
  have q1 : (k == 1) = false := by simpa using h1
  have q2 : (k == 2) = false := by simpa using h2
  have q3 : (k == 3) = false := by simpa using h3
  have q4 : (k == 4) = false := by simpa using h4
  have q5 : (k == 5) = false := by simpa using h5
  clear h h1 h2 h3 h4 h5
  go_enter Try.func38, Try.ntmps38
  go_wp2_with fail
  go_ret
  exact H.out.same (HVW.out _) _ rfl
/-- What is asked of an act that is done: its rows lie ahead of the disks. -/
structure ActIn (B : Nat) (w : World) (x : AAct) (A1 : Option Addr) (A2 : Option Addr) : Prop where
  bytes : Bytes w A1 x.bytes
  ints : Ints w A2 x.picks
  lo1 : x.bytes ≠ [] → ∀ b o, A1 = some ⟨b, o, none⟩ → b < B
  lo2 : x.picks ≠ [] → ∀ b o, A2 = some ⟨b, o, none⟩ → b < B
  ok : x.Ok
theorem act2_any {B : Nat} (p : Nat) (S : Nat → Prop) (q : Nat) (T : Nat → Prop) (D : DS) (x : AAct) (A1 A2 : Option Addr) (c1 c2 : Nat) (w : World) (h : Two B w p S q T D) (hA : ActIn B w x A1 A2) (hroom : ∀ i, (D.waits i).length ≤ 1000000) :
    Calls Try.prog 38 #[.pointer (some ⟨p, 0, none⟩), .pointer (some ⟨q, 0, none⟩), .agg #[.int .i64 x.kind, .int .i64 x.idx, .slice A1 x.bytes.length c1, .slice A2 x.picks.length c2]] w (Acted B p q w (D.actA x)) := by
  obtain ⟨k, i, l, ps⟩ := x
  obtain ⟨hb, hi, l1, l2, hok⟩ := hA
  have hidx : i ≤ 9223372036854775807 := by
    have := hok.idx
    simp only [Lit.wf, Bool.and_eq_true, decide_eq_true_eq] at this
    have a2 : IntKind.i64.max = 9223372036854775807 := rfl
    omega
  have hpk := hok.picks
  simp only at hb hi hpk
  unfold DS.actA
  simp only
  by_cases h1 : k = 1
  · subst h1; rw [if_pos rfl]; exact act2_write p S q T D i A1 A2 l ps.length c1 c2 w h hb l1 hroom
  rw [if_neg h1]
  by_cases h2 : k = 2
  · subst h2; rw [if_pos rfl]; exact act2_flush p S q T D i A1 A2 l.length ps.length c1 c2 w h hroom
  rw [if_neg h2]
  by_cases h3 : k = 3
  · subst h3; rw [if_pos rfl]; exact act2_fuse p S q T D i A1 A2 l.length ps.length c1 c2 w h hidx
  rw [if_neg h3]
  by_cases h4 : k = 4
  · subst h4; rw [if_pos rfl]; exact act2_crash p S q T D i A1 A2 ps l.length c1 c2 w h hi l2 hpk hroom
  rw [if_neg h4]
  by_cases h5 : k = 5
  · subst h5
    by_cases hin : i < 0 ∨ (D.lasts.length : Int) ≤ i
    · exact act2_read_out p S q T D i A1 A2 l.length ps.length c1 c2 w h hin
    · obtain ⟨m, rfl⟩ : ∃ m : Nat, i = m := ⟨i.toNat, by omega⟩
      exact act2_read_in p S q T D m A1 A2 l.length ps.length c1 c2 w h (by omega) (hroom _)
  · exact act2_other p S q T D k i A1 A2 l.length ps.length c1 c2 w h h1 h2 h3 h4 h5
theorem DS.actA_waits_le {D : DS} {x : AAct} {n : Nat} (h : ∀ j, (D.waits j).length ≤ n) : ∀ j, ((D.actA x).waits j).length ≤ n + 1 := by
  intro j
  unfold DS.actA
  split
  · exact DS.writeA_waits_le h j
  · split
    · exact DS.flushA_waits_le h j
    · split
      · exact Nat.le_succ_of_le (h j)
      · split
        · show ([] : List Sec).length ≤ _; simp
        · exact Nat.le_succ_of_le (h j)
theorem DS.actA_lasts_length (D : DS) (x : AAct) : (D.actA x).lasts.length = D.lasts.length := by
  unfold DS.actA
  split
  · rw [DS.writeA_lasts]
  · split
    · exact DS.flushA_lasts_length D
    · split
      · rfl
      · split
        · exact DS.crash_lasts_length D _
        · rfl
theorem ints_of_row {w : World} {B : Nat} {v : Value} {l : List Nat} (h : w.ownsRow B 3 1 v l.length (natV l)) : ∃ A c, v = .slice A l.length c ∧ Ints w A (l.map fun i : Nat => (i : Int)) := by
  rcases h.2 with ⟨h1, h2⟩ | ⟨g, cap, cur, h1, h2, h3, h4, h5, h6, h7⟩
  · exact ⟨none, 0, by rw [h1, h2], .inl (by rw [List.eq_nil_of_length_eq_zero h2]; rfl)⟩
  · refine ⟨_, cap, h1, .inr ⟨g, 0, rfl, lt_of h3, fun j v hv => ?_⟩⟩
    rw [Nat.zero_add, cell_of h3]
    have h8 : (cur.toList.take (l.length * 1))[j]? = (natV l)[j]? := by rw [h7]
    have hj : j < l.length := by have := (List.getElem?_eq_some_iff.1 hv).1; simpa using this
    rw [List.getElem?_take, if_pos (by omega)] at h8
    rw [← Array.getElem?_toList, h8, ← hv]
    simp [natV, Function.comp_def]

theorem hide {p : Prop} (h : p) : Hid p := h
theorem unhide {p : Prop} (h : Hid p) : p := h
theorem quiet_left {P : Program} {f : FuncId} {args : Array Value} {w : World} {n : Nat} {v : Value}
    (h : Calls P f args (w.drewN n) fun e w' => e = .returned v ∧ w.drewN n = w') : Calls P f args (w.drewN n) fun e w'' => e = .returned v ∧ ∃ m, w'' = w.drewN m :=
  h.mono fun _ _ ⟨he, hm⟩ => ⟨he, n, hm.symm⟩
theorem Two.drewN {B : Nat} {w : World} {p q : Nat} {S T : Nat → Prop} {D : DS} (h : Two B w p S q T D) (n : Nat) : Two B (w.drewN n) p S q T D := h.fix (Nat.le_refl _) fun _ _ _ => rfl

set_option maxRecDepth 100000 in
set_option maxHeartbeats 4000000 in
theorem disks2_any {B : Nat} (p : Nat) (S : Nat → Prop) (q : Nat) (T : Nat → Prop) (D : DS) (w : World) (h : Two B w p S q T D) (hroom : ∀ i, (D.waits i).length ≤ 1000000) :
    Calls Try.prog 39 #[.pointer (some ⟨p, 0, none⟩), .pointer (some ⟨q, 0, none⟩)] w fun e w' => e = .returned (.bool true) ∧ Below w.heap.size w w' := by
  have H := Lib.hid h; have HRM := Lib.hid hroom
  have hms := h.d.ok.most
  obtain ⟨N, hN⟩ : ∃ N, N = D.lasts.length := ⟨_, rfl⟩
  rw [← hN] at hms
  have HN := Lib.hid hN
  clear h hroom hN
  go_enter Try.func39, Try.ntmps39
  go_wp2_with fail
  refine (waiting_any p S D w H.out.d.at_).mono ?_
  rintro e w1 ⟨v1, rfl, hv1, hb1⟩
  obtain ⟨A1, c1, rfl, hi1⟩ := ints_of_row hv1
  have HI1 := Lib.hid hi1; have HB1 := Lib.hid hb1
  clear hv1 hi1 hb1
  go_wp2_with fail
  refine (rwaiting_any q T D w1 (H.out.below HB1.out).x HRM.out).mono ?_
  rintro e w2 ⟨v2, rfl, hv2, hb2⟩
  obtain ⟨A2, c2, rfl, hi2⟩ := ints_of_row hv2
  have HI2 := Lib.hid hi2; have HB2 := Lib.hid (HB1.out.trans (hb2.mono HB1.out.size)); have HI1' := Lib.hid (HI1.out.below hb2)
  clear hv2 hi2 hb2 HI1 HB1
  have HT2 := Lib.hid (H.out.below HB2.out)
  obtain ⟨bo, cap, outer, gs, hm⟩ := HT2.out.x.mem
  have c0 := cell_of hm.own 0
  simp only [List.getElem?_toArray, List.getElem?_cons_zero] at c0
  rw [← HN.out] at c0
  have HM := Lib.hid hm
  clear hm
  obtain ⟨l, hl⟩ : ∃ l, l = D.waiting := ⟨_, rfl⟩
  rw [← hl] at HI1' HI2 ⊢
  have hll : l.length ≤ N := by rw [hl, HN.out]; exact waitTo_length D _
  clear hl
  go_wp2_with fail
  have HLN := hide (show ∀ n, Calls Try.prog 42 #[.pointer (some ⟨p, 0, none⟩)] (w2.drewN n) fun e w' => e = .returned (.int .i64 N) ∧ w2.drewN n = w' from fun n => by rw [HN.out]; exact len_any p S D _ (HT2.out.drewN _).d.at_)
  go_quiet ((go_at_call 42; exact quiet_left ((unhide HLN) _)))
  go_wp2_with fail
  have HB3 := Lib.hid (below_drewN HB2.out nq)
  have HT3 := Lib.hid (HT2.out.drewN nq)
  have HJ1 : Hid (Ints (w2.drewN nq) A1 (l.map fun i : Nat => (i : Int))) := Lib.hid HI1'.out
  have HJ2 : Hid (Ints (w2.drewN nq) A2 (l.map fun i : Nat => (i : Int))) := Lib.hid HI2.out
  obtain ⟨w3, hw3⟩ : ∃ w3, w3 = w2.drewN nq := ⟨_, rfl⟩
  rw [← hw3] at HB3 HT3 HJ1 HJ2 ⊢
  clear hw3 HI1' HI2 HM HT2 HB2 HLN c0
  go_loopw [7] (fun i wr => ∃ k : Nat, k ≤ l.length ∧ i = .int .i64 k ∧ Hid (Below w3.heap.size w3 wr)) (fun i _ => 5000 - (intOf i).toNat)
  case atStart => exact ⟨0, by omega, rfl, Lib.hid (Below.refl _ _)⟩
  case round =>
    obtain ⟨k, hk, rfl, HBr⟩ := hrel
    by_cases hlt : k < l.length
    · have q1 : decide ((k : Int) < (l.length : Int)) = true := by simp; omega
      have q2 : (k : Int) < (l.length : Int) := by omega
      obtain ⟨b1, o1, rfl, g1⟩ := (HJ1.out.below HBr.out).get k (by simpa using hlt)
      obtain ⟨b2, o2, rfl, g2⟩ := (HJ2.out.below HBr.out).get k (by simpa using hlt)
      rw [List.getElem_map] at g1 g2
      obtain ⟨z, hz⟩ : ∃ z, z = l[k] := ⟨_, rfl⟩
      rw [← hz] at g1 g2
      clear hz
      go_wp2_with fail
      go_quiet (fail)
      go_wp2_with fail
      go_round
      · exact ⟨k + 1, by omega, by simp, Lib.hid (below_drewN HBr.out _)⟩
      · simp [intOf]; omega
    · have q1 : decide ((k : Int) < (l.length : Int)) = false := by simp; omega
      go_wp2_with fail
      have HTr := Lib.hid (HT3.out.below HBr.out)
      obtain ⟨w4, hw4⟩ : ∃ w4 : World, w4 = wr := ⟨_, rfl⟩
      rw [← hw4] at HBr HTr ⊢
      clear hw4 HT3 HJ1 HJ2
      go_loopw [8] (fun i wr => ∃ k : Nat, k ≤ N ∧ i = .int .i64 k ∧ Hid (Below w4.heap.size w4 wr)) (fun i _ => 5000 - (intOf i).toNat)
      case atStart => exact ⟨0, by omega, rfl, Lib.hid (Below.refl _ _)⟩
      case round =>
        obtain ⟨j, hj, rfl, HBs⟩ := hrel
        have HTs := Lib.hid (HTr.out.below HBs.out)
        obtain ⟨bo, cap, outer, gs, hm⟩ := HTs.out.x.mem
        have c0 := cell_of hm.own 0
        simp only [List.getElem?_toArray, List.getElem?_cons_zero] at c0
        rw [← HN.out] at c0
        clear hm
        by_cases hlt2 : j < N
        · have p1 : decide ((j : Int) < (N : Int)) = true := by simp; omega
          have HJ : Hid (j < D.lasts.length) := Lib.hid (by rw [← HN.out]; exact hlt2)
          have HL := Lib.hid (DS.read_length HTs.out.d.ok j HJ.out)
          obtain ⟨s, hs⟩ : ∃ s, s = D.read j := ⟨_, rfl⟩
          have HS := Lib.hid hs
          clear hs
          go_wp2_with fail
          refine (read_in p S D j _ HTs.out.d.at_ HJ.out).mono ?_
          rintro e w5 ⟨rfl, rfl⟩
          rw [← HS.out]
          go_wp2_with fail
          refine (rread_in q T D j _ (HTs.out.x.alloc _) HJ.out (HRM.out _)).mono ?_
          rintro e w6 ⟨c, rfl, hb, hbl⟩
          have hl : s.length = 64 := by rw [HS.out]; exact HL.out
          rw [← HS.out] at hb
          have k1 := conv_sec w6 wr.heap.size 64 s hl ((bytes_sec (heap_alloc_new wr _)).below hbl)
          have k2 := conv_sec w6 (wr.heap.size + 1) c s hl (by simpa using hb)
          have HB6 : Hid (Below w4.heap.size w4 w6) := Lib.hid ((alloc_below_of _ HBs.out (Nat.le_refl _)).trans (hbl.mono (by have := HBs.out.size; simp; omega)))
          clear hb hbl hl c0
          go_wp2_with fail
          go_round
          · exact ⟨j + 1, by omega, by simp, HB6⟩
          · simp [intOf]; omega
        · have p1 : decide ((j : Int) < (N : Int)) = false := by simp; omega
          go_wp2_with fail
          go_ret
          exact ⟨rfl, HB3.out.trans ((HBr.out.trans (HBs.out.mono HBr.out.size)).mono HB3.out.size)⟩
end Go.Proofs.Ythbdlfkdemjpoaa
