/- What the second reference's Flush does to a disk that takes it. No condition. -/
import Derived.Test.YthbdlfkdemjpoaaR4
namespace Go.Proofs.Ythbdlfkdemjpoaa
open Go.RowKit Go.Maps

theorem RefMem.drew {w : World} {q bo cap : Nat} {T : Nat → Prop} {D : DS} {outer : Array Value} {gs : Nat → Nat} (h : RefMem w q T D bo cap outer gs) : RefMem w.drew q T D bo cap outer gs := h.fix fun _ _ _ => rfl
theorem DS.flush_eq {D : DS} (h : D.Ok) : D.flush = D.burn.flushK D.lasts.length := by
  have := DS.flushK_all (DS.burn_ok h)
  rw [show D.lasts.length = D.burn.lasts.length from rfl, this]
  rfl
theorem DS.flush_ok {D : DS} (h : D.Ok) : D.flush.Ok :=
  ⟨by rw [D.flush_lasts_length]; exact h.some, by rw [D.flush_lasts_length]; exact h.most, fun s hs => by
    have hs' : s ∈ (List.range D.lasts.length).map D.read := hs
    obtain ⟨i, hi, rfl⟩ := List.mem_map.1 hs'
    exact DS.read_length h i (by simpa using hi), fun i s hs => (by simp [DS.flush, DS.burn] at hs), fun i hi => (by simp [DS.flush, DS.burn] at hi), (DS.burn_ok h).fuse⟩
theorem Rk.flushed {B : Nat} {w w' : World} {q : Nat} {T : Nat → Prop} {D : DS} {bo cap : Nat} {outer : Array Value} {gs : Nat → Nat} (h : Rk B w q T D) (hm : RefMem w' q T (D.burn.flushK D.lasts.length) bo cap outer gs) (hk : Kept T w w') : Rk B w' q T D.flush :=
  ⟨DS.flush_ok h.ok, ⟨bo, cap, outer, gs, by rw [DS.flush_eq h.ok]; exact hm⟩, fun k hk' => ⟨(h.base k hk').1, Nat.lt_of_lt_of_le (h.base k hk').2 hk.size⟩, Nat.le_trans h.low hk.size⟩

set_option maxRecDepth 100000 in
set_option maxHeartbeats 4000000 in
theorem rflush_ok {B : Nat} (q : Nat) (T : Nat → Prop) (D : DS) (w : World) (h : Rk B w q T D) (hf : D.fuse ≠ 0) (hroom : ∀ i, (D.waits i).length ≤ 1000000) :
    Calls Try.prog 65 #[.pointer (some ⟨q, 0, none⟩)] w fun e w' => e = .returned (.int .i64 0) ∧ Rk B w' q T D.flush ∧ Kept T w w' := by
  obtain ⟨bo, cap, outer, gs, hm⟩ := h.mem
  have c1 := cell_of hm.own 1
  simp only [List.getElem?_toArray, List.getElem?_cons_succ, List.getElem?_cons_zero] at c1
  have f1 := frozen_of hm.own 1
  have q0 : (D.fuse == 0) = false := by simpa using hf
  have hms := h.ok.most
  have hff := h.ok.fuse
  have HM := Lib.hid hm
  have H := Lib.hid h; have HRM := Lib.hid hroom
  obtain ⟨N, hN⟩ : ∃ N, N = D.lasts.length := ⟨_, rfl⟩
  have HN := Lib.hid hN
  rw [← hN] at hms
  clear h hm hroom hN hf
  by_cases hp : 0 < D.fuse
  · have q4 : decide (0 < D.fuse) = true := by simpa using hp
    have hm1 : RefMem (w.setCell ⟨q, 1, none⟩ (.int .i64 (D.fuse - 1))) q T (D.burn.flushK 0) bo cap outer gs := by
      have := HM.out.setFuse (D.fuse - 1)
      rw [DS.flushK_zero]
      unfold DS.burn
      rw [if_pos hp]
      exact this
    have hk1 : Kept T w (w.setCell ⟨q, 1, none⟩ (.int .i64 (D.fuse - 1))) := (Kept.refl _ _).setCell _ _ (fun _ => HM.out.tq)
    have HM1 := Lib.hid hm1; have HK1 := Lib.hid hk1
    clear hm1 hk1
    go_enter Try.func65, Try.ntmps65
    go_wp2_with fail
    go_loopw [3] (fun i wr => ∃ (k : Nat) (outer : Array Value) (gs : Nat → Nat), k ≤ N ∧ i = .int .i64 k ∧ Hid (RefMem wr q T (D.burn.flushK k) bo cap outer gs) ∧ Hid (Kept T w wr)) (fun i _ => 5000 - (intOf i).toNat)
    case atStart => exact ⟨0, outer, gs, by omega, rfl, HM1, HK1⟩
    case round =>
      obtain ⟨k, outer, gs, hk, rfl, HMr, HK⟩ := hrel
      clear c1 f1
      (have c0 := cell_of HMr.out.own 0; simp only [List.getElem?_toArray, List.getElem?_cons_zero] at c0; rw [DS.flushK_length, show D.burn.lasts.length = D.lasts.length from rfl, ← HN.out] at c0)
      by_cases hlt : k < N
      · (have q1 : decide ((k : Int) < (N : Int)) = true := (by simp; omega); have hkl : k < (D.burn.flushK k).lasts.length := (by rw [DS.flushK_length, show D.burn.lasts.length = D.lasts.length from rfl, ← HN.out]; exact hlt); obtain ⟨rv, hv, hr⟩ := HMr.out.rows k hkl; rw [DS.flushK_vers _ k k (by rw [show D.burn.lasts.length = D.lasts.length from rfl, ← HN.out]; exact hlt), if_neg (by omega)] at hr; have HR := Lib.hid hr; obtain ⟨o, rc, cs, rfl, ho, hle, hsz, _⟩ := hr; have hrl := HRM.out k; obtain ⟨M, hM⟩ : ∃ M, M = (D.waits k).length := ⟨_, rfl⟩; have hvl : (D.burn.vers k).length = M + 1 := (by rw [DS.vers_length, hM]; rfl); rw [hvl] at HR hv hle; rw [← hM] at hrl; have HMM := Lib.hid hM; have cb : wr.cell? ⟨bo, k, none⟩ = _ := (cell_of HMr.out.rim k).trans hv; have fb := frozen_of HMr.out.rim k; have q3 : (k : Int) < (N : Int) := (by omega); have kw : IntKind.i64.wrap (M : Int) = (M : Int) := IntWalk.i64_in _ (by omega); have q6 : (M : Int) + 1 ≤ (rc : Int) := (by omega); have q7 : (M : Int) ≤ (M : Int) + 1 := (by omega); have q8 : (0 : Int) ≤ (M : Int) := (by omega); obtain ⟨g, hg⟩ : ∃ g, g = gs k := ⟨_, rfl⟩; rw [← hg] at HR cb; have HG := Lib.hid hg; clear hg hM hv ho hsz hkl hvl)
        (go_wp2_with fail; go_still_tail 22, (by kernel_rfl); go_wp2_with fail; go_round; ((have hone := HMr.out.flushOne (D := D.burn) (by rw [show D.burn.lasts.length = D.lasts.length from rfl, ← HN.out]; exact hlt) HMM.out HG.out HR.out; have hkk := HK.out.setCell ⟨bo, k, none⟩ (.slice (some ⟨g, o + M, none⟩) 1 (rc - M)) (fun _ => HMr.out.tb); exact ⟨k + 1, _, _, by omega, by simp, Lib.hid hone.drew, Lib.hid hkk.drew⟩)); (simp [intOf]; omega))
      · (have q1 : decide ((k : Int) < (N : Int)) = false := (by simp; omega); have hkN : k = D.lasts.length := (by have := HN.out; omega); go_wp2_with fail; go_ret; refine ⟨rfl, H.out.flushed (by rw [← hkN]; exact HMr.out) HK.out, HK.out⟩)
  · have q4 : decide (0 < D.fuse) = false := by simpa using hp
    have hm0 : RefMem w q T (D.burn.flushK 0) bo cap outer gs := by
      have e : D.burn = D := by unfold DS.burn; rw [if_neg hp]
      rw [DS.flushK_zero, e]; exact HM.out
    have HM1 := Lib.hid hm0
    clear hm0
    go_enter Try.func65, Try.ntmps65
    go_wp2_with fail
    go_loopw [3] (fun i wr => ∃ (k : Nat) (outer : Array Value) (gs : Nat → Nat), k ≤ N ∧ i = .int .i64 k ∧ Hid (RefMem wr q T (D.burn.flushK k) bo cap outer gs) ∧ Hid (Kept T w wr)) (fun i _ => 5000 - (intOf i).toNat)
    case atStart => exact ⟨0, outer, gs, by omega, rfl, HM1, Lib.hid (Kept.refl _ _)⟩
    case round =>
      obtain ⟨k, outer, gs, hk, rfl, HMr, HK⟩ := hrel
      clear c1 f1
      (have c0 := cell_of HMr.out.own 0; simp only [List.getElem?_toArray, List.getElem?_cons_zero] at c0; rw [DS.flushK_length, show D.burn.lasts.length = D.lasts.length from rfl, ← HN.out] at c0)
      by_cases hlt : k < N
      · (have q1 : decide ((k : Int) < (N : Int)) = true := (by simp; omega); have hkl : k < (D.burn.flushK k).lasts.length := (by rw [DS.flushK_length, show D.burn.lasts.length = D.lasts.length from rfl, ← HN.out]; exact hlt); obtain ⟨rv, hv, hr⟩ := HMr.out.rows k hkl; rw [DS.flushK_vers _ k k (by rw [show D.burn.lasts.length = D.lasts.length from rfl, ← HN.out]; exact hlt), if_neg (by omega)] at hr; have HR := Lib.hid hr; obtain ⟨o, rc, cs, rfl, ho, hle, hsz, _⟩ := hr; have hrl := HRM.out k; obtain ⟨M, hM⟩ : ∃ M, M = (D.waits k).length := ⟨_, rfl⟩; have hvl : (D.burn.vers k).length = M + 1 := (by rw [DS.vers_length, hM]; rfl); rw [hvl] at HR hv hle; rw [← hM] at hrl; have HMM := Lib.hid hM; have cb : wr.cell? ⟨bo, k, none⟩ = _ := (cell_of HMr.out.rim k).trans hv; have fb := frozen_of HMr.out.rim k; have q3 : (k : Int) < (N : Int) := (by omega); have kw : IntKind.i64.wrap (M : Int) = (M : Int) := IntWalk.i64_in _ (by omega); have q6 : (M : Int) + 1 ≤ (rc : Int) := (by omega); have q7 : (M : Int) ≤ (M : Int) + 1 := (by omega); have q8 : (0 : Int) ≤ (M : Int) := (by omega); obtain ⟨g, hg⟩ : ∃ g, g = gs k := ⟨_, rfl⟩; rw [← hg] at HR cb; have HG := Lib.hid hg; clear hg hM hv ho hsz hkl hvl)
        (go_wp2_with fail; go_still_tail 22, (by kernel_rfl); go_wp2_with fail; go_round; ((have hone := HMr.out.flushOne (D := D.burn) (by rw [show D.burn.lasts.length = D.lasts.length from rfl, ← HN.out]; exact hlt) HMM.out HG.out HR.out; have hkk := HK.out.setCell ⟨bo, k, none⟩ (.slice (some ⟨g, o + M, none⟩) 1 (rc - M)) (fun _ => HMr.out.tb); exact ⟨k + 1, _, _, by omega, by simp, Lib.hid hone.drew, Lib.hid hkk.drew⟩)); (simp [intOf]; omega))
      · (have q1 : decide ((k : Int) < (N : Int)) = false := (by simp; omega); have hkN : k = D.lasts.length := (by have := HN.out; omega); go_wp2_with fail; go_ret; refine ⟨rfl, H.out.flushed (by rw [← hkN]; exact HMr.out) HK.out, HK.out⟩)
theorem rk_flushA {B : Nat} (q : Nat) (T : Nat → Prop) (D : DS) (w : World) (h : Rk B w q T D) (hroom : ∀ i, (D.waits i).length ≤ 1000000) :
    Calls Try.prog 65 #[.pointer (some ⟨q, 0, none⟩)] w fun e w' => e = .returned (.int .i64 D.flushE) ∧ Rk B w' q T D.flushA ∧ Kept T w w' := by
  unfold DS.flushE DS.flushA
  by_cases hf : D.fuse = 0
  · refine (rflush_dead q T D w h hf).mono ?_
    rintro e w' ⟨rfl, rfl⟩
    exact ⟨by simp [hf], by simpa [hf] using h, Kept.refl _ _⟩
  · refine (rflush_ok q T D w h hf hroom).mono ?_
    rintro e w' ⟨rfl, hd, hk⟩
    exact ⟨by simp [hf], by simpa [hf] using hd, hk⟩
end Go.Proofs.Ythbdlfkdemjpoaa
