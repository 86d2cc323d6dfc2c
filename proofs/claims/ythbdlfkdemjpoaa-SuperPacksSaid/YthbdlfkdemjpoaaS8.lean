/- What the sector package's Crash does. No condition. -/
import Derived.Test.YthbdlfkdemjpoaaS7
import Derived.Deep.DeepCutAuto
import Derived.Deep.CutBlock
namespace Go.Proofs.Ythbdlfkdemjpoaa
open Go.RowKit Go.Maps
attribute [local go_sem ↓] Go.wp_at_zero Go.wp_at_succ

/-- A row of whole numbers that is read. -/
def Ints (w : World) (A : Option Addr) (l : List Int) : Prop := l = [] ∨ ∃ b o, A = some ⟨b, o, none⟩ ∧ b < w.heap.size ∧ w.rangeAt b o (l.map (Value.int .i64))
theorem Ints.fix {w w' : World} {A : Option Addr} {l : List Int} (h : Ints w A l) (hs : w.heap.size ≤ w'.heap.size) (hm : ∀ b o, A = some ⟨b, o, none⟩ → b < w.heap.size → w'.heap[b]? = w.heap[b]?) : Ints w' A l := by
  rcases h with h | ⟨b, o, rfl, hl, hc⟩
  · exact .inl h
  · refine .inr ⟨b, o, rfl, Nat.lt_of_lt_of_le hl hs, fun j v hv => ?_⟩
    rw [World.cell?_of_block (w := w) (hm b o rfl hl)]
    exact hc j v hv
theorem Ints.below {w w' : World} {A : Option Addr} {l : List Int} (h : Ints w A l) (hb : Below w.heap.size w w') : Ints w' A l := h.fix hb.size fun b _ _ hl => hb.block b hl
theorem Ints.get {w : World} {A : Option Addr} {l : List Int} (h : Ints w A l) (k : Nat) (hk : k < l.length) : ∃ b o, A = some ⟨b, o, none⟩ ∧ w.cell? ⟨b, o + k, none⟩ = some (.int .i64 l[k]) := by
  rcases h with rfl | ⟨b, o, rfl, hl, hc⟩
  · simp at hk
  · exact ⟨b, o, rfl, hc k _ (by simp [hk])⟩

/-- What is picked of the k-th sector that waits, as it came in. -/
def pickI (picks : List Int) (t : Nat) : Int := if t < picks.length then (if picks.getD t 0 < 0 then 0 else picks.getD t 0) else 0
theorem pickI_nonneg (picks : List Int) (t : Nat) : 0 ≤ pickI picks t := by unfold pickI; split <;> (try split) <;> omega
def DS.pick (D : DS) (picks : List Int) (t i : Nat) : Nat := (pickI picks t).toNat % ((D.waits i).length + 1)
/-- The sectors that last when t of those that wait are settled. -/
def DS.crashTo (D : DS) (picks : List Int) : Nat → List Sec
  | 0 => D.lasts
  | t + 1 => match D.waiting[t]? with
    | none => D.crashTo picks t
    | some i => if D.pick picks t i = 0 then D.crashTo picks t else (D.crashTo picks t).set i ((D.waits i).getD (D.pick picks t i - 1) [])
theorem DS.crashTo_skip {D : DS} {picks : List Int} {t i : Nat} (hi : D.waiting[t]? = some i) (hp : D.pick picks t i = 0) : D.crashTo picks (t + 1) = D.crashTo picks t := by
  simp only [DS.crashTo, hi, hp, if_true]
theorem DS.crashTo_take {D : DS} {picks : List Int} {t i : Nat} (hi : D.waiting[t]? = some i) (hp : D.pick picks t i ≠ 0) : D.crashTo picks (t + 1) = (D.crashTo picks t).set i ((D.waits i).getD (D.pick picks t i - 1) []) := by
  simp only [DS.crashTo, hi, hp, if_false]
def DS.crash (D : DS) (picks : List Int) : DS := ⟨D.crashTo picks D.waiting.length, fun _ => [], -1⟩
theorem DS.crashTo_length (D : DS) (picks : List Int) (t : Nat) : (D.crashTo picks t).length = D.lasts.length := by
  induction t with
  | zero => rfl
  | succ t ih => unfold DS.crashTo; split; exact ih; split; exact ih; simpa using ih
theorem DS.crashTo_wide {D : DS} (h : D.Ok) (picks : List Int) (t : Nat) : ∀ s ∈ D.crashTo picks t, s.length = 64 := by
  induction t with
  | zero => exact h.wide
  | succ t ih =>
    unfold DS.crashTo
    split
    · exact ih
    · rename_i i hi
      split
      · exact ih
      · rename_i hp
        intro s hs
        rcases List.mem_or_eq_of_mem_set hs with h1 | h1
        · exact ih s h1
        · rw [h1]
          have hlt : D.pick picks t i < (D.waits i).length + 1 := Nat.mod_lt _ (by omega)
          have hg : (D.waits i).getD (D.pick picks t i - 1) [] = (D.waits i)[D.pick picks t i - 1]'(by omega) := by rw [List.getD_eq_getElem?_getD, List.getElem?_eq_getElem (by omega)]; rfl
          rw [hg]
          exact h.wide' i _ (List.getElem_mem _)
theorem DS.crashTo_ok {D : DS} (h : D.Ok) (picks : List Int) (t : Nat) : ({ D with lasts := D.crashTo picks t } : DS).Ok :=
  ⟨by rw [DS.crashTo_length]; exact h.some, by rw [DS.crashTo_length]; exact h.most, D.crashTo_wide h picks t, h.wide', fun i hi => by rw [DS.crashTo_length]; exact h.inside i hi, h.fuse⟩

set_option maxHeartbeats 400000 in
theorem crash_nil (A : Option Addr) (n c : Nat) (w : World) : Calls Try.prog 36 #[.pointer none, .slice A n c] w fun e w' => e = .returned (.tuple #[]) ∧ w = w' := by
  go_enter Try.func36, Try.ntmps36
  go_wp2_with (go_at_call 33; refine (waiting_nil _).mono ?_; rintro e w' ⟨rfl, rfl⟩)
  go_loop [12] (fun i => i = .int .i64 0) (fun _ => 0)
  case atStart => rfl
  case round =>
    obtain rfl := hrel
    go_wp2_with fail
    go_end0
    exact ⟨rfl, rfl⟩

set_option maxRecDepth 100000 in
set_option maxHeartbeats 2000000 in
theorem crash_anyN (p : Nat) (S : Nat → Prop) (D : DS) (A : Option Addr) (picks : List Int) (c : Nat) (w : World) (h : DiskAt w p S D) (hA : Ints w A picks) (hAS : picks ≠ [] → ∀ b o, A = some ⟨b, o, none⟩ → ¬ S b) (hroom : ∀ i, (D.waits i).length ≤ 1000000) :
    Calls Try.prog 36 #[.pointer (some ⟨p, 0, none⟩), .slice A picks.length c] w fun e w' => e = .returned (.tuple #[]) ∧ DiskAt w' p S (D.crash picks) ∧ Kept S w w' := by
  have hT := h.tight
  have hok := h.ok
  have hms := hok.most
  have hwl : D.waiting.length ≤ 4096 := by
    have := List.length_filter_le (fun i => !(D.waits i).isEmpty) (List.range D.lasts.length)
    rw [List.length_range] at this
    exact Nat.le_trans this hms
  obtain ⟨S0, hS0⟩ : ∃ S0 : Nat → Prop, S0 = fun k => S k ∧ k < w.heap.size := ⟨_, rfl⟩
  rw [← hS0] at hT
  have HT := Lib.hid hT; have HS0 := Lib.hid hS0; have HO := Lib.hid hok
  have HA0 := Lib.hid hA; have HAS := Lib.hid hAS
  clear hT hS0 hok hA hAS
  go_enter Try.func36, Try.ntmps36
  go_wp2_with fail
  refine (waiting_any p S0 D w HT.out).mono ?_
  rintro e w1 ⟨v, rfl, hown, hb⟩
  have hD1 := HT.out.below hb
  have HD1 := Lib.hid hD1; have HB := Lib.hid hb; have HOWN := Lib.hid hown
  obtain ⟨V, cap, rfl⟩ : ∃ V cap, v = .slice V D.waiting.length cap := by
    rcases hown.2 with ⟨rfl, h0⟩ | ⟨g, cap, _, rfl, _⟩
    · exact ⟨none, 0, by rw [h0]⟩
    · exact ⟨_, _, rfl⟩
  clear hb hD1 hown
  go_wp2_with fail
  go_loopw [12] (fun i wr => ∃ t : Nat, t ≤ D.waiting.length ∧ i = .int .i64 t ∧ Hid (DiskAt wr p S0 { D with lasts := D.crashTo picks t }) ∧ Hid (Kept S0 w1 wr)) (fun i _ => D.waiting.length - (intOf i).toNat)
  case atStart => exact ⟨0, Nat.zero_le _, rfl, HD1.out, Kept.refl _ _⟩
  case round =>
    obtain ⟨t, ht, rfl, HDt, HKt⟩ := hrel
    by_cases hlt : t < D.waiting.length
    · -- the sector, its versions
      obtain ⟨i, hi⟩ : ∃ i, D.waiting[t]? = some i := ⟨_, List.getElem?_eq_getElem hlt⟩
      have hmem : i ∈ D.waiting := List.mem_of_getElem? hi
      obtain ⟨hil, hne⟩ := DS.mem_waiting.1 hmem
      obtain ⟨hokt, bl, bm, clock, rs, hm⟩ := HDt.out
      have c0 := cell_of hm.own 0
      have c1 := cell_of hm.own 1
      simp only [List.getElem?_toArray, List.getElem?_cons_succ, List.getElem?_cons_zero, DS.crashTo_length] at c0 c1
      obtain ⟨l, hl⟩ : ∃ l, l = D.waits i := ⟨_, rfl⟩
      obtain ⟨g, gcap, hf, how⟩ : ∃ g gcap, mfind rs (i : Int) = some (.slice (some ⟨g, 0, none⟩) l.length gcap) ∧ wr.ownsRow 0 97 64 (.slice (some ⟨g, 0, none⟩) l.length gcap) l.length (flat l) := by
        rcases hm.keys i with ⟨h0, _⟩ | ⟨_, g, gcap, hf, how⟩
        · exact absurd h0 hne
        · rw [hl]; exact ⟨g, gcap, hf, how⟩
      have hlk := run_lookup (P := Try.prog) (w := wr) (t := 93) Try.underlying93 Try.underlying3 (int_keys .i64) rs hm.map (lookup_zero _) (i : Int) false
      rw [hf] at hlk
      simp only [Bool.false_eq_true, if_false, Option.getD_some] at hlk
      obtain ⟨cur, hcur, hcap, hcm, hct⟩ : ∃ cur, wr.heap[g]? = some (.cells cur 97 (0, 0)) ∧ l.length ≤ gcap ∧ gcap ≤ maxLen ∧ cur.toList.take (l.length * 64) = flat l := by
        rcases how.2 with ⟨h, _⟩ | ⟨g', cap', cur, hv, _, h2, h3, h4, h5, h6⟩
        · cases h
        · cases hv; exact ⟨cur, h2, h3, h4, h6⟩
      have hw64 : ∀ s ∈ l, s.length = 64 := fun s hs => HO.out.wide' i s (hl ▸ hs)
      -- the place in the list of those that wait
      obtain ⟨g0, rfl, hg0, hc0⟩ : ∃ g0, V = some ⟨g0, 0, none⟩ ∧ w.heap.size ≤ g0 ∧ wr.cell? ⟨g0, t, none⟩ = some (.int .i64 (i : Int)) := by
        rcases HOWN.out.2 with ⟨h, h0⟩ | ⟨g0, cap', _, h, hb0, hh, _⟩
        · omega
        · cases h
          have h1 := HOWN.out.cellAt t (by omega)
          have hg0 := HOWN.out.lt g0 rfl
          refine ⟨g0, rfl, hg0.1, ?_⟩
          rw [World.cell?_of_block (w := w1) (HKt.out.block g0 hg0.2 (fun h => by rw [HS0.out] at h; omega)), h1]
          simp [hi]
      obtain ⟨P, hP⟩ : ∃ P, P = pickI picks t := ⟨_, rfl⟩
      have hP0 : 0 ≤ P := by rw [hP]; exact pickI_nonneg _ _
      have HP := Lib.hid hP; have HI := Lib.hid hi; have HIL := Lib.hid hil; have HM := Lib.hid hm; have HOT := Lib.hid hokt; have HL := Lib.hid hl
      have HCUR := Lib.hid hcur; have HCT := Lib.hid hct; have HW64 := Lib.hid hw64
      have hll : 0 < l.length := by rw [hl]; exact List.length_pos_iff.2 hne
      have hlm : l.length ≤ 1000000 := by rw [hl]; exact hroom i
      have HF := Lib.hid hf
      clear hP hi hil hm hokt hl hcur hct hw64 hf how hne hmem
      have q0 : (0 : Int) ≤ (t : Int) := by omega
      have q1 : (t : Int) < (D.waiting.length : Int) := by omega
      go_upto_if 20 with (fail)
      go_cut [6] (fun v6 wx => v6 = .int .i64 P ∧ wx = wr)
      case first =>
        by_cases ht2 : t < picks.length
        · obtain ⟨b2, o2, hA2, hc2⟩ : ∃ b o, A = some ⟨b, o, none⟩ ∧ wr.cell? ⟨b, o + t, none⟩ = some (.int .i64 picks[t]) := by
            have hAr : Ints wr A picks := (HA0.out.below HB.out).fix HKt.out.size (fun b o e hlt => HKt.out.block b hlt (fun h => by rw [HS0.out] at h; exact HAS.out (List.ne_nil_of_length_pos (by omega)) b o e h.1))
            exact hAr.get t ht2
          subst hA2
          have hpx : P = if picks[t] < 0 then 0 else picks[t] := by
            rw [HP.out]; unfold pickI; rw [if_pos ht2, List.getD_eq_getElem?_getD, List.getElem?_eq_getElem ht2]; rfl
          have q2 : (t : Int) < (picks.length : Int) := by omega
          by_cases hneg : picks[t] < 0
          · rw [if_pos hneg] at hpx
            subst hpx
            go_wp2_with fail
            all_goals (go_meet; exact ⟨by rw [Int.max_eq_right (by omega)], rfl⟩)
          · rw [if_neg hneg] at hpx
            have hpos : 0 ≤ picks[t] := by omega
            obtain ⟨x, hx⟩ : ∃ x, x = picks[t] := ⟨_, rfl⟩
            rw [← hx] at hpx hc2 hneg hpos
            subst hpx
            clear hx hneg
            go_wp2_with fail
            all_goals (go_meet; exact ⟨by rw [Int.max_eq_left (by omega)], rfl⟩)
        · have hpx : P = 0 := by rw [HP.out]; unfold pickI; rw [if_neg ht2]
          subst hpx
          go_wp2_with fail
          all_goals (go_meet; trivial)
      case rest =>
        obtain ⟨rfl, rfl⟩ := hcut
        clear hlt ht
        obtain ⟨m, hmq⟩ : ∃ m : Nat, m = D.pick picks t i := ⟨_, rfl⟩
        have hmP : P % ((l.length : Int) + 1) = (m : Int) := by
          rw [hmq, DS.pick, ← HP.out, ← HL.out]
          rw [Int.natCast_emod, Int.toNat_of_nonneg hP0]; rfl
        have hmle : m < l.length + 1 := by rw [hmq, HL.out]; exact Nat.mod_lt _ (by omega)
        have HMQ := Lib.hid hmq
        clear hmq
        have hw1 : IntKind.i64.wrap ((l.length : Int) + 1) = (l.length : Int) + 1 := IntWalk.i64_in _ (by omega)
        by_cases hm0 : m = 0
        · subst hm0
          have hcr : Hid (D.crashTo picks (t + 1) = D.crashTo picks t) := DS.crashTo_skip HI.out HMQ.out.symm
          clear hmle
          go_wp2_with fail
          go_roundw
          case rel => exact ⟨t + 1, by omega, by go_num, by rw [hcr.out]; exact HDt, HKt⟩
          case measure => simp [intOf]; omega
        · obtain ⟨s, hs⟩ : ∃ s, s = (D.waits i).getD (m - 1) [] := ⟨_, rfl⟩
          have hs2 : ∃ h : m - 1 < l.length, s = l[m - 1] := by
            refine ⟨by omega, ?_⟩
            rw [hs, ← HL.out, List.getD_eq_getElem?_getD, List.getElem?_eq_getElem (by omega)]; rfl
          obtain ⟨hmi, hs2⟩ := hs2
          have hcr : Hid (D.crashTo picks (t + 1) = (D.crashTo picks t).set i s) := by
            have := DS.crashTo_take HI.out (fun e => hm0 (HMQ.out.trans e))
            rw [← HMQ.out, ← hs] at this
            exact this
          have hsl : s.length = 64 := by rw [hs2]; exact HW64.out _ (List.getElem_mem _)
          have hrg := range_flat HCUR.out HW64.out HCT.out (m - 1) hmi
          rw [← hs2] at hrg
          have hil' : i < (D.crashTo picks t).length := by rw [DS.crashTo_length]; exact HIL.out
          obtain ⟨_, hth⟩ := HM.out.last HOT.out i hil' s hsl
          obtain ⟨hml, _⟩ := (HM.out.fix (w' := wc.drew) (fun _ _ _ => rfl)).last HOT.out i hil' s hsl
          have hmok := DS.last_ok HOT.out i s hsl
          have hu := Try.underlying97
          have hisz : (Try.prog.info? 97).map (·.size) = some (secV s).length := by rw [secV_length, hsl]; kernel_rfl
          have hsl64 : (secV s).length = 64 := by rw [secV_length, hsl]
          have h1c : ∀ v ∈ secV s, v.oneCell' = true := fun v hv => secV_one hv
          have hw2 : IntKind.i64.wrap ((m : Int) - 1) = (m : Int) - 1 := IntWalk.i64_in _ (by omega)
          have hw3 : ((m : Int) - 1).toNat = m - 1 := by omega
          have q5 : (0 : Int) ≤ (m : Int) - 1 := by omega
          have q6 : (m : Int) - 1 < (l.length : Int) := by omega
          have q7 : (0 : Int) ≤ (i : Int) := by omega
          have q8 : (i : Int) < (D.lasts.length : Int) := by have := HIL.out; omega
          have q9 : (0 : Int) < (m : Int) := by omega
          have q10 : (1 : Int) ≤ (m : Int) := by omega
          have q11 : (m : Int) < (l.length : Int) + 1 := by omega
          have q12 : (m : Int) ≤ (l.length : Int) := by omega
          have hgb : g ≠ bl := by
            rintro rfl
            obtain ⟨r, hr, hrk, hrv⟩ := mfind_some HF.out
            obtain ⟨_, _, _, _, g2, n2, cap2, hv2, _, hb2⟩ := HM.out.rows r hr
            rw [hrv] at hv2
            cases hv2
            exact hb2 rfl
          have hpb : p ≠ bl := fun e => by have a := HM.out.lasts; rw [← e, HM.out.own] at a; injection a with a; injection a with _ a; exact absurd a (by decide)
          have hks : Hid (∀ W : World, (∀ k, k ≠ bl → W.heap[k]? = wc.heap[k]?) → W.there bl (i * 64) 64 → W.cell? ⟨p, 0, none⟩ = some (.slice (some ⟨bl, 0, none⟩) D.lasts.length D.lasts.length) ∧ W.rangeAt g ((m - 1) * 64) (secV s) ∧ W.there bl (i * 64) 64) := by
            intro W hW hT
            refine ⟨?_, ?_, hT⟩
            · rw [World.cell?_of_block (w := wc) (hW p hpb)]; exact c0
            · intro j u hu
              rw [World.cell?_of_block (w := wc) (hW g hgb)]; exact hrg j u hu
          have HML := Lib.hid hml; have HMOK := Lib.hid hmok; have HTH := Lib.hid hth
          clear hgb hpb hs hs2 hml hmok hsl hil' hmi
          go_wp2_with fail
          go_region_held3 (fun w' => w'.cell? ⟨p, 0, none⟩ = some (.slice (some ⟨bl, 0, none⟩) D.lasts.length D.lasts.length) ∧ w'.rangeAt g ((m - 1) * 64) (secV s) ∧ w'.there bl (i * 64) 64) (first | exact hks.out _ (fun k _ => rfl) ((World.there_drew _ _ _ _).2 HTH.out) | exact hks.out _ (fun k hk => heap_setCells _ _ _ _ k hk) (World.there_setCells ((World.there_drew _ _ _ _).2 HTH.out) _ _ _)) (fail)
          go_wp2_with fail
          go_roundw
          case rel => exact ⟨t + 1, by omega, by go_num, by rw [hcr.out]; exact ⟨HMOK.out, _, _, _, _, HML.out⟩, HKt.out.drew.setCells _ _ _ (fun _ => HM.out.sl)⟩
          case measure => simp [intOf]; omega
    · obtain rfl : t = D.waiting.length := by omega
      obtain ⟨hokt, bl, bm, clock, rs, hm⟩ := HDt.out
      have c1 := cell_of hm.own 1
      simp only [List.getElem?_toArray, List.getElem?_cons_succ, List.getElem?_cons_zero] at c1
      have hcl := run_clear_map hm.map
      have hmc := hm.clear
      have hokc := DS.clear_ok hokt
      have f2 := frozen_of hmc.own 2
      have c2 := cell_of hmc.own 2
      simp only [List.getElem?_toArray, List.getElem?_cons_succ, List.getElem?_cons_zero] at c2
      have HMC : Hid (DiskAt (setObj wr bm (.map #[] clock)) p S0 { D with lasts := D.crashTo picks D.waiting.length, waits := fun _ => [] }) := ⟨hokc, _, _, _, _, hmc⟩
      have HKC : Hid (Kept S0 w1 (setObj wr bm (.map #[] clock))) := HKt.out.setObj _ _ (fun _ => hm.sm)
      have c1x : (setObj wr bm (.map #[] clock)).cell? ⟨p, 1, none⟩ = some (.map (some bm)) := by have := cell_of hmc.own 1; simpa using this
      clear hmc hokc hm hokt
      go_wp2_with fail
      go_end0
      have hfin := HMC.out.setFuse (-1) (by omega) (by omega)
      have hk2 := HKC.out.trans (setFuse_kept HMC.out (-1))
      refine ⟨rfl, hfin.mono (fun k hk => by rw [HS0.out] at hk; exact hk.1), ?_⟩
      refine (Kept.of_below HB.out).trans' hk2 (fun k hk hs => by rw [HS0.out] at hs; exact hs.1)
theorem crash_any (p : Nat) (S : Nat → Prop) (D : DS) (A : Option Addr) (picks : List Int) (c : Nat) (w : World) (h : DiskAt w p S D) (hA : Ints w A picks) (hAS : ∀ b o, A = some ⟨b, o, none⟩ → ¬ S b) (hroom : ∀ i, (D.waits i).length ≤ 1000000) :
    Calls Try.prog 36 #[.pointer (some ⟨p, 0, none⟩), .slice A picks.length c] w fun e w' => e = .returned (.tuple #[]) ∧ DiskAt w' p S (D.crash picks) ∧ Kept S w w' :=
  crash_anyN p S D A picks c w h hA (fun _ => hAS) hroom
end Go.Proofs.Ythbdlfkdemjpoaa
