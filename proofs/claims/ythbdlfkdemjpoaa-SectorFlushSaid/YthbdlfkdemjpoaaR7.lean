/- What the second reference's Crash does. No condition. -/
import Derived.Test.YthbdlfkdemjpoaaE0
import Derived.Test.YthbdlfkdemjpoaaR6
namespace Go.Proofs.Ythbdlfkdemjpoaa
open Go.RowKit Go.Maps
attribute [local go_sem ↓] Go.wp_at_zero Go.wp_at_succ

theorem alloc_setCell (w : World) (o : Obj) (a : Addr) (v : Value) (h : a.block < w.heap.size) : (w.alloc o).setCell a v = (w.setCell a v).alloc o := by
  simp only [World.setCell, World.alloc]
  congr 1
  apply Array.ext_getElem?
  intro k
  simp only [Array.getElem?_modify, Array.getElem?_push, Array.size_modify]
  by_cases hk : k = w.heap.size
  · subst hk; rw [if_neg (by omega)]; simp
  · rw [if_neg hk]; simp [hk]
/-- One sector crashed, in memory. -/
theorem RefMem.crashOne {w0 : World} {q bo cap : Nat} {T2 : Nat → Prop} {D : DS} {picks : List Int} {k : Nat} {outer : Array Value} {gs : Nat → Nat} {s : Sec} (h : RefMem w0 q T2 (D.crashK picks k) bo cap outer gs) (hk : k < D.lasts.length) (hw : D.waits k ≠ []) (hs : (D.vers k)[D.pickOf picks k]? = some s) :
    RefMem ((w0.alloc (.cells #[secS s] 9)).setCell ⟨bo, k, none⟩ (.slice (some ⟨w0.heap.size, 0, none⟩) 1 1)) q (fun j => T2 j ∨ w0.heap.size ≤ j) (D.crashK picks (k + 1)) bo cap (outer.setIfInBounds k (.slice (some ⟨w0.heap.size, 0, none⟩) 1 1)) (fun j => if j = k then w0.heap.size else gs j) := by
  have hv : (D.crashK picks (k + 1)).vers k = [s] := by
    rw [D.crashK_vers picks _ _ hk, if_pos (by omega), D.crash_lasts picks k hk, if_neg hw]
    rw [List.getElem?_eq_getElem (D.pickOf_lt picks k)] at hs
    injection hs with hs
    rw [hs]
  refine h.exchange (D' := D.crashK picks (k + 1)) (w1 := w0.alloc (.cells #[secS s] 9)) (g' := w0.heap.size) k (by rw [DS.crashK_length]; exact hk) (fun j hj _ => Below.heap_alloc _ _ _ hj) ?_ (.inr (Nat.le_refl _)) rfl (by rw [DS.crashK_length, DS.crashK_length]) (fun j hj => ?_)
  · rw [hv]
    exact ⟨0, 1, _, rfl, heap_alloc_new w0 _, by simp, by simp, fun j hj => by
      have : j = 0 := by simpa using hj
      subst this
      rfl⟩
  · by_cases hjl : j < D.lasts.length
    · rw [D.crashK_vers picks _ _ hjl, D.crashK_vers picks _ _ hjl]
      by_cases h3 : j < k
      · rw [if_pos h3, if_pos (by omega)]
      · rw [if_neg h3, if_neg (by omega)]
    · simp only [DS.vers, DS.crashK, List.getD_eq_getElem?_getD]
      rw [List.getElem?_eq_none (by simp; omega), List.getElem?_eq_none (by simp; omega)]
      by_cases h3 : j < k
      · omega
      · rw [if_neg h3, if_neg (by omega)]

set_option maxRecDepth 100000 in
set_option maxHeartbeats 4000000 in
theorem rcrash_any {B : Nat} (q : Nat) (T : Nat → Prop) (D : DS) (A : Option Addr) (picks : List Int) (c : Nat) (w : World) (h : Rk B w q T D) (hA : Ints w A picks) (hAT : picks ≠ [] → ∀ b o, A = some ⟨b, o, none⟩ → ¬ T b) (hroom : ∀ i, (D.waits i).length ≤ 1000000) (hlen : picks.length ≤ 140737488351232) :
    Calls Try.prog 67 #[.pointer (some ⟨q, 0, none⟩), .slice A picks.length c] w fun e w' => ∃ T', e = .returned (.tuple #[]) ∧ Rk B w' q T' (D.crash picks) ∧ Kept T w w' ∧ ∀ k, T' k → T k ∨ w.heap.size ≤ k := by
  obtain ⟨bo, cap, outer, gs, hm⟩ := h.mem
  have hms := h.ok.most
  have HM : Hid (RefMem w q T (D.crashK picks 0) bo cap outer gs) := Lib.hid (by rw [D.crashK_zero]; exact hm)
  have H := Lib.hid h; have HRM := Lib.hid hroom; have HA := Lib.hid hA; have HAT := Lib.hid hAT
  obtain ⟨N, hN⟩ : ∃ N, N = D.lasts.length := ⟨_, rfl⟩
  have HN := Lib.hid hN
  rw [← hN] at hms
  clear h hm hroom hN hA hAT
  go_enter Try.func67, Try.ntmps67
  go_wp2_with fail
  go_loopw [4, 5] (fun t i wr => ∃ (k tn : Nat) (outer : Array Value) (gs : Nat → Nat) (T2 : Nat → Prop), k ≤ N ∧ i = .int .i64 k ∧ t = .int .i64 tn ∧ tn ≤ k ∧ Hid (tn = (D.waitTo k).length) ∧ Hid (RefMem wr q T2 (D.crashK picks k) bo cap outer gs) ∧ Hid (Kept T w wr) ∧ Hid (∀ k, T2 k → T k ∨ w.heap.size ≤ k)) (fun _ i _ => 5000 - (intOf i).toNat)
  case atStart => exact ⟨0, 0, outer, gs, T, by omega, rfl, rfl, by omega, Lib.hid rfl, HM, Lib.hid (Kept.refl _ _), Lib.hid fun k hk => .inl hk⟩
  case round =>
    obtain ⟨k, tn, outer, gs, T2, hk, rfl, rfl, htk, HT, HMr, HK, HT2⟩ := hrel
    have c0 := cell_of HMr.out.own 0
    simp only [List.getElem?_toArray, List.getElem?_cons_zero] at c0
    rw [DS.crashK_length, ← HN.out] at c0
    by_cases hlt : k < N
    · have q1 : decide ((k : Int) < (N : Int)) = true := by simp; omega
      have hkD : k < D.lasts.length := by rw [← HN.out]; exact hlt
      have HKD := Lib.hid hkD
      obtain ⟨rv, hv, hr⟩ := HMr.out.rows k (by rw [DS.crashK_length]; exact hkD)
      rw [DS.crashK_vers D picks k k hkD, if_neg (by omega)] at hr
      have HR := Lib.hid hr
      obtain ⟨o, rc, cs, rfl, ho, hle, hsz, hget⟩ := hr
      have hrl := HRM.out k
      obtain ⟨M, hM⟩ : ∃ M, M = (D.waits k).length := ⟨_, rfl⟩
      have hvl : (D.vers k).length = M + 1 := by rw [D.vers_length, hM]
      have cb : wr.cell? ⟨bo, k, none⟩ = _ := (cell_of HMr.out.rim k).trans hv
      rw [hvl] at HR cb hle
      have q3 : (k : Int) < (N : Int) := by omega
      by_cases hM0 : M = 0
      · have hw : D.waits k = [] := List.eq_nil_of_length_eq_zero (by omega)
        have HS := Lib.hid (D.crashK_skip picks k hkD hw)
        have HT3 : Hid (tn = (D.waitTo (k + 1)).length) := Lib.hid (by rw [D.waitTo_succ, hw]; simp [HT.out])
        subst hM0
        clear hv ho hsz hget hM hw hvl hkD hle
        go_wp2_with fail
        go_round
        · exact ⟨k + 1, tn, _, _, T2, by omega, by simp, rfl, by omega, HT3, by rw [HS.out]; exact HMr, HK, HT2⟩
        · simp [intOf]; omega
      · have hw : D.waits k ≠ [] := fun e => hM0 (by rw [hM, e]; rfl)
        have q2 : ((M : Int) + 1 == 1) = false := by simp; omega
        have HT3 : Hid (tn + 1 = (D.waitTo (k + 1)).length) := Lib.hid (by
          rw [D.waitTo_succ, show (D.waits k).isEmpty = false by cases h : D.waits k with | nil => exact absurd h hw | cons => rfl]
          simp [HT.out])
        obtain ⟨P, hP⟩ : ∃ P, P = D.pickOf picks k := ⟨_, rfl⟩
        have hPlt : P < M + 1 := by rw [hP, ← hvl]; exact D.pickOf_lt picks k
        have hPI : P = (pickI picks tn).toNat % (M + 1) := by rw [hP, HT.out, hM]; rfl
        obtain ⟨s, hs⟩ : ∃ s, s = (D.vers k)[P]'(by rw [hvl]; exact hPlt) := ⟨_, rfl⟩
        have cg : wr.cell? ⟨gs k, o + P, none⟩ = some (.string ⟨s.toArray⟩) := by rw [hs]; exact (cell_of ho (o + P)).trans (hget P (by rw [hvl]; exact hPlt))
        have HSS : Hid ((D.vers k)[P]? = some s) := Lib.hid (by rw [hs]; exact List.getElem?_eq_getElem _)
        clear hs
        have fb := frozen_of HMr.out.rim k
        have HP := Lib.hid hP; have HMM := Lib.hid hM; have HW := Lib.hid hw
        obtain ⟨g, hg⟩ : ∃ g, g = gs k := ⟨_, rfl⟩
        rw [← hg] at HR cb cg
        have HG := Lib.hid hg
        by_cases htl : tn < picks.length
        · have q5 : decide ((tn : Int) < (picks.length : Int)) = true := by simp; omega
          have hAr : Ints wr A picks := HA.out.fix HK.out.size fun b o e hb => HK.out.block b hb (HAT.out (List.ne_nil_of_length_pos (by omega)) b o e)
          obtain ⟨b, oa, rfl, ga⟩ := hAr.get tn htl
          obtain ⟨z, hz⟩ : ∃ z, z = picks[tn] := ⟨_, rfl⟩
          rw [← hz] at ga
          obtain ⟨zn, hzn⟩ : ∃ zn : Nat, zn = (max z 0).toNat := ⟨_, rfl⟩
          have hmx : max z 0 = (zn : Int) := by omega
          have hP2 : P = zn % (M + 1) := by
            rw [hPI]
            congr 1
            unfold pickI
            rw [if_pos htl, List.getD_eq_getElem?_getD, List.getElem?_eq_getElem htl]
            show (if picks[tn] < 0 then 0 else picks[tn]).toNat = zn
            rw [← hz]
            split <;> omega
          have r1 : Int.tmod (zn : Int) ((M : Int) + 1) = (P : Int) := by
            rw [hP2, show ((M : Int) + 1) = ((M + 1 : Nat) : Int) by simp, Int.ofNat_tmod]
          have r2 : (zn : Int) % ((M : Int) + 1) = (P : Int) := by
            rw [hP2, show ((M : Int) + 1) = ((M + 1 : Nat) : Int) by simp]; first | exact (Int.natCast_emod _ _).symm | exact (Int.natCast_mod _ _).symm | rfl
          have q6 : (tn : Int) < (picks.length : Int) := by omega
          have q7 : (0 : Int) < (M : Int) + 1 := by omega
          clear hv ho hsz hget hM hw hvl hkD hP hPI hz hzn hP2 hAr hg
          go_wp2_with fail
          go_quiet (fail)
          go_wp2_with fail
          have HM0 : Hid (RefMem (wr.drewN nq) q T2 (D.crashK picks k) bo cap outer gs) := Lib.hid (HMr.out.fix fun _ _ _ => rfl)
          have HK0 : Hid (Kept T w (wr.drewN nq)) := Lib.hid ⟨HK.out.os, HK.out.tape, HK.out.output, HK.out.size, HK.out.block⟩
          have c0' : (wr.drewN nq).cell? ⟨q, 0, none⟩ = _ := c0
          have cb' : (wr.drewN nq).cell? ⟨bo, k, none⟩ = _ := cb
          have cg' : (wr.drewN nq).cell? ⟨g, o + P, none⟩ = _ := cg
          have fb' : (wr.drewN nq).frozen? ⟨bo, k, none⟩ = _ := fb
          clear c0 cb cg fb
          obtain ⟨w0, hw0⟩ : ∃ w0, w0 = wr.drewN nq := ⟨_, rfl⟩
          rw [← hw0] at HM0 HK0 c0' cb' cg' fb' ⊢
          clear hw0 ga r1 r2
          have hgb : g ≠ bo ∧ g ≠ q ∧ bo ≠ q := by rw [HG.out]; exact row_ne HM0.out k (by rw [DS.crashK_length]; exact HKD.out)
          have hql := lt_of HM0.out.own
          have hbl := lt_of HM0.out.rim
          have hgl : g < w0.heap.size := World.block_lt_of_cell? w0 _ cg'
          have HKE : Hid (∀ W : World, (∀ j, j < w0.heap.size → W.heap[j]? = w0.heap[j]?) → W.cell? ⟨q, 0, none⟩ = some (.slice (some ⟨bo, 0, none⟩) N cap) ∧ W.cell? ⟨bo, k, none⟩ = some (.slice (some ⟨g, o, none⟩) (M + 1) rc) ∧ W.cell? ⟨g, o + P, none⟩ = some (.string ⟨s.toArray⟩)) := Lib.hid fun W hW =>
            ⟨by rw [World.cell?_of_block (w := w0) (hW q hql)]; exact c0', by rw [World.cell?_of_block (w := w0) (hW bo hbl)]; exact cb', by rw [World.cell?_of_block (w := w0) (hW g hgl)]; exact cg'⟩
          have hPM : (P : Int) < (M : Int) + 1 := by omega
          have HGB := Lib.hid hgb
          clear hgb
          (refine wp_region_E (fun w' => w'.cell? ⟨q, 0, none⟩ = some (.slice (some ⟨bo, 0, none⟩) N cap) ∧ w'.cell? ⟨bo, k, none⟩ = some (.slice (some ⟨g, o, none⟩) (M + 1) rc) ∧ w'.cell? ⟨g, o + P, none⟩ = some (.string ⟨s.toArray⟩)) 17 (by kernel_rfl) (by kernel_rfl) (HKE.out _ (fun _ _ => rfl)) (fun hHeld => ?_); (refine wpE_take (i := 0) 43 (v := ?_) (by kernel_rfl) rfl rfl (by decide) (by kernel_rfl) (by kernel_rfl) (fun _ _ _ h => h) (Or.inl ⟨by rfl, ?_⟩) (by assumption) ?_; rotate_left; (focus (intro w hSw; (try dsimp only at hSw); go_simp; try with_reducible rfl)); (try simp only [Act.put, List.setIfInBounds_toArray, List.set_cons_zero, List.set_cons_succ])); (refine wpE_take (i := 1) 44 (v := ?_) (by kernel_rfl) rfl rfl (by decide) (by kernel_rfl) (by kernel_rfl) (fun _ _ _ h => h) (Or.inl ⟨by rfl, ?_⟩) (by assumption) ?_; rotate_left; (focus (intro w hSw; (try dsimp only at hSw); go_simp; try with_reducible rfl)); (try simp only [Act.put, List.setIfInBounds_toArray, List.set_cons_zero, List.set_cons_succ])); (refine wpE_take (i := 2) 45 (v := ?_) (by kernel_rfl) rfl rfl (by decide) (by kernel_rfl) (by kernel_rfl) (fun _ _ _ h => h) (Or.inl ⟨by rfl, ?_⟩) (by assumption) ?_; rotate_left; (focus (intro w hSw; (try dsimp only at hSw); go_simp; try with_reducible rfl)); (try simp only [Act.put, List.setIfInBounds_toArray, List.set_cons_zero, List.set_cons_succ])); (refine wpE_take (i := 3) 46 (v := ?_) (by kernel_rfl) rfl rfl (by decide) (by kernel_rfl) (by kernel_rfl) (fun _ _ _ h => h) (Or.inl ⟨by rfl, ?_⟩) (by assumption) ?_; rotate_left; (focus (intro w hSw; (try dsimp only at hSw); go_simp; try with_reducible rfl)); (try simp only [Act.put, List.setIfInBounds_toArray, List.set_cons_zero, List.set_cons_succ])); (refine wpE_take (i := 4) 47 (v := ?_) (by kernel_rfl) rfl rfl (by decide) (by kernel_rfl) (by kernel_rfl) (fun _ _ _ h => h) (Or.inl ⟨by rfl, ?_⟩) (by assumption) ?_; rotate_left; (focus (intro w hSw; (try dsimp only at hSw); go_simp; try with_reducible rfl)); (try simp only [Act.put, List.setIfInBounds_toArray, List.set_cons_zero, List.set_cons_succ])); (refine wpE_take (i := 5) 48 (v := ?_) (by kernel_rfl) rfl rfl (by decide) (by kernel_rfl) (by kernel_rfl) (fun _ _ _ h => h) (Or.inl ⟨by rfl, ?_⟩) (by assumption) ?_; rotate_left; (focus (intro w hSw; (try dsimp only at hSw); go_simp; try with_reducible rfl)); (try simp only [Act.put, List.setIfInBounds_toArray, List.set_cons_zero, List.set_cons_succ])); (refine wpE_take (i := 6) 49 (v := ?_) (by kernel_rfl) rfl rfl (by decide) (by kernel_rfl) (by kernel_rfl) (fun _ _ _ h => h) (Or.inl ⟨by rfl, ?_⟩) (by assumption) ?_; rotate_left; (focus (intro w hSw; (try dsimp only at hSw); go_simp; try with_reducible rfl)); (try simp only [Act.put, List.setIfInBounds_toArray, List.set_cons_zero, List.set_cons_succ])); (refine wpE_take (i := 7) 50 (v := ?_) (by kernel_rfl) rfl rfl (by decide) (by kernel_rfl) (by kernel_rfl) (fun _ _ _ h => h) (Or.inl ⟨by rfl, ?_⟩) (by assumption) ?_; rotate_left; (focus (intro w hSw; (try dsimp only at hSw); go_simp; try with_reducible rfl)); (try simp only [Act.put, List.setIfInBounds_toArray, List.set_cons_zero, List.set_cons_succ])); (refine wpE_take (i := 8) 51 (v := ?_) (by kernel_rfl) rfl rfl (by decide) (by kernel_rfl) (by kernel_rfl) (fun _ _ _ h => h) (Or.inl ⟨by rfl, ?_⟩) (by assumption) ?_; rotate_left; (focus (intro w hSw; (try dsimp only at hSw); go_simp; try with_reducible rfl)); (try simp only [Act.put, List.setIfInBounds_toArray, List.set_cons_zero, List.set_cons_succ])); (refine wpE_take (i := 9) 52 (v := ?_) (by kernel_rfl) rfl rfl (by decide) (by kernel_rfl) (by kernel_rfl) (fun _ _ _ h => h) (Or.inl ⟨by rfl, ?_⟩) (by assumption) ?_; rotate_left; (focus (intro w hSw; (try dsimp only at hSw); go_simp; try with_reducible rfl)); (try simp only [Act.put, List.setIfInBounds_toArray, List.set_cons_zero, List.set_cons_succ])); (refine wpE_take (i := 10) 53 (v := ?_) (by kernel_rfl) rfl rfl (by decide) (by kernel_rfl) (by kernel_rfl) (fun _ _ _ h => h) (Or.inl ⟨by rfl, ?_⟩) (by assumption) ?_; rotate_left; (focus (intro w hSw; (try dsimp only at hSw); go_simp; try with_reducible rfl)); (try simp only [Act.put, List.setIfInBounds_toArray, List.set_cons_zero, List.set_cons_succ])); (refine wpE_take (i := 11) 54 (v := ?_) (by kernel_rfl) rfl rfl (by decide) (by kernel_rfl) (by kernel_rfl) (fun _ _ _ h => h) (Or.inl ⟨by rfl, ?_⟩) (by assumption) ?_; rotate_left; (focus (intro w hSw; (try dsimp only at hSw); go_simp; try with_reducible rfl)); (try simp only [Act.put, List.setIfInBounds_toArray, List.set_cons_zero, List.set_cons_succ])); (refine wpE_take (i := 12) 55 (v := ?_) (by kernel_rfl) rfl rfl (by decide) (by kernel_rfl) (by kernel_rfl) (fun _ _ _ h => h) (Or.inl ⟨by rfl, ?_⟩) (by assumption) ?_; rotate_left; (focus (intro w hSw; (try dsimp only at hSw); go_simp; try with_reducible rfl)); (try simp only [Act.put, List.setIfInBounds_toArray, List.set_cons_zero, List.set_cons_succ])); (refine wpE_take (i := 13) 56 (v := ?_) (by kernel_rfl) rfl rfl (by decide) (by kernel_rfl) (by kernel_rfl) (fun _ _ _ h => h) (Or.inl ⟨by rfl, ?_⟩) (by assumption) ?_; rotate_left; (focus (intro w hSw; (try dsimp only at hSw); go_simp; try with_reducible rfl)); (try simp only [Act.put, List.setIfInBounds_toArray, List.set_cons_zero, List.set_cons_succ])); (refine wpE_take (i := 14) 57 (v := ?_) (by kernel_rfl) rfl rfl (by decide) (by kernel_rfl) (by kernel_rfl) (fun _ _ _ h => h) (Or.inl ⟨by rfl, ?_⟩) (by assumption) ?_; rotate_left; (focus (intro w hSw; (try dsimp only at hSw); go_simp; try with_reducible rfl)); (try simp only [Act.put, List.setIfInBounds_toArray, List.set_cons_zero, List.set_cons_succ])); (refine wpE_one (i := 15) rfl (by kernel_rfl) (by decide) (fun K hK => ?_); go_simp; refine hK.out _ _ ?_ (fun hHeld2 => ?_); (focus (exact HKE.out _ (fun j hj => Below.heap_alloc _ _ _ hj))); clear hK K; clear hHeld; have hHeld := hHeld2; clear hHeld2; (try simp only [Act.put, List.setIfInBounds_toArray, List.set_cons_zero, List.set_cons_succ])); (refine wpE_take (i := 16) 59 (v := ?_) (by kernel_rfl) rfl rfl (by decide) (by kernel_rfl) (by kernel_rfl) (fun _ _ _ h => h) (Or.inl ⟨by rfl, ?_⟩) (by assumption) ?_; rotate_left; (focus (intro w hSw; (try dsimp only at hSw); go_simp; try with_reducible rfl)); (try simp only [Act.put, List.setIfInBounds_toArray, List.set_cons_zero, List.set_cons_succ])); refine wpE_end rfl (by kernel_rfl) (by kernel_rfl) (fun K hK => ?_); go_simp; refine hK.out _ _ ?_; clear hK K hHeld)
          all_goals
            have hone := HM0.out.crashOne HKD.out HW.out (by rw [← HP.out]; exact HSS.out)
            have hkk : Kept T w ((w0.alloc (.cells #[secS s] 9)).setCell ⟨bo, k, none⟩ (.slice (some ⟨w0.heap.size, 0, none⟩) 1 1)) := (HK0.out.alloc _).setCell _ _ (fun hb => (HT2.out bo HM0.out.tb).elim id (fun h => absurd hb (Nat.not_lt.2 h)))
            rw [alloc_setCell _ _ _ _ (lt_of HM0.out.rim)] at hone hkk
            have HO := Lib.hid hone; have HKK := Lib.hid hkk
            clear hone hkk c0' cb' cg' fb'
            go_wp2_with fail
            go_round
            · exact ⟨k + 1, tn + 1, _, _, (fun j => T2 j ∨ w0.heap.size ≤ j), by omega, by simp, by simp, by omega, HT3, Lib.hid HO.out.drew, Lib.hid HKK.out.drew, Lib.hid (fun j hj => Or.elim hj (HT2.out j) (fun h => .inr (Nat.le_trans HK0.out.size h)))⟩
            · simp [intOf]; omega
        · have q5 : decide ((tn : Int) < (picks.length : Int)) = false := by simp; omega
          have hP0 : P = 0 := by rw [hPI]; unfold pickI; rw [if_neg htl]; simp
          subst hP0
          rw [Nat.add_zero] at cg
          have q7 : (0 : Int) < (M : Int) + 1 := by omega
          clear hv ho hsz hget hM hw hvl hkD hP hPI hg hPlt
          go_wp2_with fail
          have HM0 : Hid (RefMem wr q T2 (D.crashK picks k) bo cap outer gs) := Lib.hid (HMr.out.fix fun _ _ _ => rfl)
          have HK0 : Hid (Kept T w wr) := Lib.hid ⟨HK.out.os, HK.out.tape, HK.out.output, HK.out.size, HK.out.block⟩
          have c0' : wr.cell? ⟨q, 0, none⟩ = _ := c0
          have cb' : wr.cell? ⟨bo, k, none⟩ = _ := cb
          have cg' : wr.cell? ⟨g, o, none⟩ = _ := cg
          have fb' : wr.frozen? ⟨bo, k, none⟩ = _ := fb
          clear c0 cb cg fb
          obtain ⟨w0, hw0⟩ : ∃ w0, w0 = wr := ⟨_, rfl⟩
          rw [← hw0] at HM0 HK0 c0' cb' cg' fb' ⊢
          clear hw0
          have hgb : g ≠ bo ∧ g ≠ q ∧ bo ≠ q := by rw [HG.out]; exact row_ne HM0.out k (by rw [DS.crashK_length]; exact HKD.out)
          have hql := lt_of HM0.out.own
          have hbl := lt_of HM0.out.rim
          have hgl : g < w0.heap.size := World.block_lt_of_cell? w0 _ cg'
          have HKE : Hid (∀ W : World, (∀ j, j < w0.heap.size → W.heap[j]? = w0.heap[j]?) → W.cell? ⟨q, 0, none⟩ = some (.slice (some ⟨bo, 0, none⟩) N cap) ∧ W.cell? ⟨bo, k, none⟩ = some (.slice (some ⟨g, o, none⟩) (M + 1) rc) ∧ W.cell? ⟨g, o, none⟩ = some (.string ⟨s.toArray⟩)) := Lib.hid fun W hW =>
            ⟨by rw [World.cell?_of_block (w := w0) (hW q hql)]; exact c0', by rw [World.cell?_of_block (w := w0) (hW bo hbl)]; exact cb', by rw [World.cell?_of_block (w := w0) (hW g hgl)]; exact cg'⟩
          have HGB := Lib.hid hgb
          clear hgb
          (refine wp_region_E (fun w' => w'.cell? ⟨q, 0, none⟩ = some (.slice (some ⟨bo, 0, none⟩) N cap) ∧ w'.cell? ⟨bo, k, none⟩ = some (.slice (some ⟨g, o, none⟩) (M + 1) rc) ∧ w'.cell? ⟨g, o, none⟩ = some (.string ⟨s.toArray⟩)) 17 (by kernel_rfl) (by kernel_rfl) (HKE.out _ (fun _ _ => rfl)) (fun hHeld => ?_); (refine wpE_take (i := 0) 43 (v := ?_) (by kernel_rfl) rfl rfl (by decide) (by kernel_rfl) (by kernel_rfl) (fun _ _ _ h => h) (Or.inl ⟨by rfl, ?_⟩) (by assumption) ?_; rotate_left; (focus (intro w hSw; (try dsimp only at hSw); go_simp; try with_reducible rfl)); (try simp only [Act.put, List.setIfInBounds_toArray, List.set_cons_zero, List.set_cons_succ])); (refine wpE_take (i := 1) 44 (v := ?_) (by kernel_rfl) rfl rfl (by decide) (by kernel_rfl) (by kernel_rfl) (fun _ _ _ h => h) (Or.inl ⟨by rfl, ?_⟩) (by assumption) ?_; rotate_left; (focus (intro w hSw; (try dsimp only at hSw); go_simp; try with_reducible rfl)); (try simp only [Act.put, List.setIfInBounds_toArray, List.set_cons_zero, List.set_cons_succ])); (refine wpE_take (i := 2) 45 (v := ?_) (by kernel_rfl) rfl rfl (by decide) (by kernel_rfl) (by kernel_rfl) (fun _ _ _ h => h) (Or.inl ⟨by rfl, ?_⟩) (by assumption) ?_; rotate_left; (focus (intro w hSw; (try dsimp only at hSw); go_simp; try with_reducible rfl)); (try simp only [Act.put, List.setIfInBounds_toArray, List.set_cons_zero, List.set_cons_succ])); (refine wpE_take (i := 3) 46 (v := ?_) (by kernel_rfl) rfl rfl (by decide) (by kernel_rfl) (by kernel_rfl) (fun _ _ _ h => h) (Or.inl ⟨by rfl, ?_⟩) (by assumption) ?_; rotate_left; (focus (intro w hSw; (try dsimp only at hSw); go_simp; try with_reducible rfl)); (try simp only [Act.put, List.setIfInBounds_toArray, List.set_cons_zero, List.set_cons_succ])); (refine wpE_take (i := 4) 47 (v := ?_) (by kernel_rfl) rfl rfl (by decide) (by kernel_rfl) (by kernel_rfl) (fun _ _ _ h => h) (Or.inl ⟨by rfl, ?_⟩) (by assumption) ?_; rotate_left; (focus (intro w hSw; (try dsimp only at hSw); go_simp; try with_reducible rfl)); (try simp only [Act.put, List.setIfInBounds_toArray, List.set_cons_zero, List.set_cons_succ])); (refine wpE_take (i := 5) 48 (v := ?_) (by kernel_rfl) rfl rfl (by decide) (by kernel_rfl) (by kernel_rfl) (fun _ _ _ h => h) (Or.inl ⟨by rfl, ?_⟩) (by assumption) ?_; rotate_left; (focus (intro w hSw; (try dsimp only at hSw); go_simp; try with_reducible rfl)); (try simp only [Act.put, List.setIfInBounds_toArray, List.set_cons_zero, List.set_cons_succ])); (refine wpE_take (i := 6) 49 (v := ?_) (by kernel_rfl) rfl rfl (by decide) (by kernel_rfl) (by kernel_rfl) (fun _ _ _ h => h) (Or.inl ⟨by rfl, ?_⟩) (by assumption) ?_; rotate_left; (focus (intro w hSw; (try dsimp only at hSw); go_simp; try with_reducible rfl)); (try simp only [Act.put, List.setIfInBounds_toArray, List.set_cons_zero, List.set_cons_succ])); (refine wpE_take (i := 7) 50 (v := ?_) (by kernel_rfl) rfl rfl (by decide) (by kernel_rfl) (by kernel_rfl) (fun _ _ _ h => h) (Or.inl ⟨by rfl, ?_⟩) (by assumption) ?_; rotate_left; (focus (intro w hSw; (try dsimp only at hSw); go_simp; try with_reducible rfl)); (try simp only [Act.put, List.setIfInBounds_toArray, List.set_cons_zero, List.set_cons_succ])); (refine wpE_take (i := 8) 51 (v := ?_) (by kernel_rfl) rfl rfl (by decide) (by kernel_rfl) (by kernel_rfl) (fun _ _ _ h => h) (Or.inl ⟨by rfl, ?_⟩) (by assumption) ?_; rotate_left; (focus (intro w hSw; (try dsimp only at hSw); go_simp; try with_reducible rfl)); (try simp only [Act.put, List.setIfInBounds_toArray, List.set_cons_zero, List.set_cons_succ])); (refine wpE_take (i := 9) 52 (v := ?_) (by kernel_rfl) rfl rfl (by decide) (by kernel_rfl) (by kernel_rfl) (fun _ _ _ h => h) (Or.inl ⟨by rfl, ?_⟩) (by assumption) ?_; rotate_left; (focus (intro w hSw; (try dsimp only at hSw); go_simp; try with_reducible rfl)); (try simp only [Act.put, List.setIfInBounds_toArray, List.set_cons_zero, List.set_cons_succ])); (refine wpE_take (i := 10) 53 (v := ?_) (by kernel_rfl) rfl rfl (by decide) (by kernel_rfl) (by kernel_rfl) (fun _ _ _ h => h) (Or.inl ⟨by rfl, ?_⟩) (by assumption) ?_; rotate_left; (focus (intro w hSw; (try dsimp only at hSw); go_simp; try with_reducible rfl)); (try simp only [Act.put, List.setIfInBounds_toArray, List.set_cons_zero, List.set_cons_succ])); (refine wpE_take (i := 11) 54 (v := ?_) (by kernel_rfl) rfl rfl (by decide) (by kernel_rfl) (by kernel_rfl) (fun _ _ _ h => h) (Or.inl ⟨by rfl, ?_⟩) (by assumption) ?_; rotate_left; (focus (intro w hSw; (try dsimp only at hSw); go_simp; try with_reducible rfl)); (try simp only [Act.put, List.setIfInBounds_toArray, List.set_cons_zero, List.set_cons_succ])); (refine wpE_take (i := 12) 55 (v := ?_) (by kernel_rfl) rfl rfl (by decide) (by kernel_rfl) (by kernel_rfl) (fun _ _ _ h => h) (Or.inl ⟨by rfl, ?_⟩) (by assumption) ?_; rotate_left; (focus (intro w hSw; (try dsimp only at hSw); go_simp; try with_reducible rfl)); (try simp only [Act.put, List.setIfInBounds_toArray, List.set_cons_zero, List.set_cons_succ])); (refine wpE_take (i := 13) 56 (v := ?_) (by kernel_rfl) rfl rfl (by decide) (by kernel_rfl) (by kernel_rfl) (fun _ _ _ h => h) (Or.inl ⟨by rfl, ?_⟩) (by assumption) ?_; rotate_left; (focus (intro w hSw; (try dsimp only at hSw); go_simp; try with_reducible rfl)); (try simp only [Act.put, List.setIfInBounds_toArray, List.set_cons_zero, List.set_cons_succ])); (refine wpE_take (i := 14) 57 (v := ?_) (by kernel_rfl) rfl rfl (by decide) (by kernel_rfl) (by kernel_rfl) (fun _ _ _ h => h) (Or.inl ⟨by rfl, ?_⟩) (by assumption) ?_; rotate_left; (focus (intro w hSw; (try dsimp only at hSw); go_simp; try with_reducible rfl)); (try simp only [Act.put, List.setIfInBounds_toArray, List.set_cons_zero, List.set_cons_succ])); (refine wpE_one (i := 15) rfl (by kernel_rfl) (by decide) (fun K hK => ?_); go_simp; refine hK.out _ _ ?_ (fun hHeld2 => ?_); (focus (exact HKE.out _ (fun j hj => Below.heap_alloc _ _ _ hj))); clear hK K; clear hHeld; have hHeld := hHeld2; clear hHeld2; (try simp only [Act.put, List.setIfInBounds_toArray, List.set_cons_zero, List.set_cons_succ])); (refine wpE_take (i := 16) 59 (v := ?_) (by kernel_rfl) rfl rfl (by decide) (by kernel_rfl) (by kernel_rfl) (fun _ _ _ h => h) (Or.inl ⟨by rfl, ?_⟩) (by assumption) ?_; rotate_left; (focus (intro w hSw; (try dsimp only at hSw); go_simp; try with_reducible rfl)); (try simp only [Act.put, List.setIfInBounds_toArray, List.set_cons_zero, List.set_cons_succ])); refine wpE_end rfl (by kernel_rfl) (by kernel_rfl) (fun K hK => ?_); go_simp; refine hK.out _ _ ?_; clear hK K hHeld)
          all_goals
            have hone := HM0.out.crashOne HKD.out HW.out (by rw [← HP.out]; exact HSS.out)
            have hkk : Kept T w ((w0.alloc (.cells #[secS s] 9)).setCell ⟨bo, k, none⟩ (.slice (some ⟨w0.heap.size, 0, none⟩) 1 1)) := (HK0.out.alloc _).setCell _ _ (fun hb => (HT2.out bo HM0.out.tb).elim id (fun h => absurd hb (Nat.not_lt.2 h)))
            rw [alloc_setCell _ _ _ _ (lt_of HM0.out.rim)] at hone hkk
            have HO := Lib.hid hone; have HKK := Lib.hid hkk
            clear hone hkk c0' cb' cg' fb'
            go_wp2_with fail
            go_round
            · exact ⟨k + 1, tn + 1, _, _, (fun j => T2 j ∨ w0.heap.size ≤ j), by omega, by simp, by simp, by omega, HT3, Lib.hid HO.out.drew, Lib.hid HKK.out.drew, Lib.hid (fun j hj => Or.elim hj (HT2.out j) (fun h => .inr (Nat.le_trans HK0.out.size h)))⟩
            · simp [intOf]; omega
    · have q1 : decide ((k : Int) < (N : Int)) = false := by simp; omega
      have hkN : k = D.lasts.length := by have := HN.out; omega
      have c1 := cell_of HMr.out.own 1
      simp only [List.getElem?_toArray, List.getElem?_cons_succ, List.getElem?_cons_zero] at c1
      have f1 := frozen_of HMr.out.own 1
      have hfin := HMr.out.setFuse (-1)
      rw [hkN, DS.crashK_all H.out.ok picks] at hfin
      have hkk := HK.out.setCell ⟨q, 1, none⟩ (.int .i64 (-1)) (fun hb => (HT2.out q HMr.out.tq).elim id (fun h => absurd hb (Nat.not_lt.2 h)))
      have HF := Lib.hid hfin; have HKK := Lib.hid hkk
      clear hfin hkk hkN
      go_wp2_with fail
      go_end0
      have hok : (D.crash picks).Ok := by
        have h1 := DS.crashTo_ok H.out.ok picks D.waiting.length
        exact ⟨h1.some, h1.most, h1.wide, fun i s hs => (by simp [DS.crash] at hs), fun i hi => (by simp [DS.crash] at hi), (by show (-1 : Int) ≤ -1 ∧ (-1 : Int) ≤ 9223372036854775807; omega)⟩
      exact ⟨fun j => T2 j ∧ j < (wr.setCell ⟨q, 1, none⟩ (.int .i64 (-1))).heap.size, rfl, ⟨hok, ⟨_, _, _, _, HF.out.mono fun j hj hl => ⟨hj, hl⟩⟩, fun j hj => ⟨(HT2.out j hj.1).elim (fun h => (H.out.base j h).1) (fun h => Nat.le_trans H.out.low h), hj.2⟩, Nat.le_trans H.out.low HKK.out.size⟩, HKK.out, fun j hj => HT2.out j hj.1⟩
end Go.Proofs.Ythbdlfkdemjpoaa
