/- What the second reference's Waiting answers. No condition. -/
import Derived.Test.YthbdlfkdemjpoaaR1
namespace Go.Proofs.Ythbdlfkdemjpoaa
open Go.RowKit Go.Maps

/-- The sectors below k that wait. -/
def DS.waitTo (D : DS) (k : Nat) : List Nat := (List.range k).filter fun i => !(D.waits i).isEmpty
theorem DS.waitTo_succ (D : DS) (k : Nat) : D.waitTo (k + 1) = D.waitTo k ++ (if (D.waits k).isEmpty then [] else [k]) := by
  unfold DS.waitTo
  rw [List.range_succ, List.filter_append]
  congr 1
  cases h : (D.waits k).isEmpty <;> simp [h]
def natV (l : List Nat) : List Value := l.map fun i : Nat => Value.int .i64 (i : Int)
theorem waitTo_length (D : DS) (k : Nat) : (D.waitTo k).length ≤ k := by
  unfold DS.waitTo
  exact Nat.le_trans (List.length_filter_le _ _) (by simp)
theorem Try.infoInt : (Try.prog.info? 3).map (fun i => (i.zero.map (·.cells), i.size, i.bytes)) = some (some #[.int .i64 0], 1, 8) := by kernel_rfl

set_option maxRecDepth 100000 in
set_option maxHeartbeats 2000000 in
theorem rwaiting_any {B : Nat} (q : Nat) (T : Nat → Prop) (D : DS) (w : World) (h : Rk B w q T D) (hroom : ∀ i, (D.waits i).length ≤ 1000000) :
    Calls Try.prog 69 #[.pointer (some ⟨q, 0, none⟩)] w fun e w' => ∃ v, e = .returned v ∧ w'.ownsRow w.heap.size 3 1 v D.waiting.length (natV D.waiting) ∧ Below w.heap.size w w' := by
  obtain ⟨bo, cap, outer, gs, hm⟩ := h.mem
  have c0 := cell_of hm.own 0
  simp only [List.getElem?_toArray, List.getElem?_cons_zero] at c0
  have hms := h.ok.most
  obtain ⟨i0, hi0, z0, hz0, hz1, hz2, hz3⟩ : ∃ i0, Try.prog.info? 3 = some i0 ∧ ∃ z, i0.zero = some z ∧ i0.size = 1 ∧ i0.bytes = 8 ∧ z.cells.size = 1 := by
    have := Try.infoInt
    cases h : Try.prog.info? 3 with
    | none => rw [h] at this; cases this
    | some i =>
      rw [h] at this
      simp only [Option.map_some, Option.some.injEq, Prod.mk.injEq, Option.map_eq_some_iff] at this
      obtain ⟨⟨z, h1, h2⟩, h3, h4⟩ := this
      exact ⟨i, rfl, z, h1, h3, h4, by rw [h2]; rfl⟩
  have HI0 := Lib.hid hi0; have HZ0 := Lib.hid hz0; have HZ1 := Lib.hid hz1; have HZ2 := Lib.hid hz2; have HZ3 := Lib.hid hz3
  have HM := Lib.hid hm; have HR := Lib.hid hroom; have HC0 := Lib.hid c0
  obtain ⟨N, hN⟩ : ∃ N, N = D.lasts.length := ⟨_, rfl⟩
  have HN := Lib.hid hN
  rw [← hN] at c0 hms
  have hq : q < w.heap.size := lt_of hm.own
  clear h hm hi0 hz0 hz1 hz2 hz3 hroom hN
  go_enter Try.func69, Try.ntmps69
  go_wp2_with fail
  go_loopw [3, 4] (fun v i wr => ∃ (k : Nat) (v0 : Value), k ≤ N ∧ i = .int .i64 k ∧ v0 = v ∧ Hid (wr.ownsRow w.heap.size 3 1 v0 (D.waitTo k).length (natV (D.waitTo k))) ∧ Hid (Below w.heap.size w wr)) (fun _ i _ => 5000 - (intOf i).toNat)
  case atStart => exact ⟨0, _, by omega, rfl, rfl, Lib.hid (World.ownsRow_nil _ _ _ _), Lib.hid (Below.refl _ _)⟩
  case round =>
    obtain ⟨k, v, hk, rfl, rfl, HV, HB⟩ := hrel
    have hc0 : wr.cell? ⟨q, 0, none⟩ = _ := (HB.out.cell (p := ⟨q, 0, none⟩) hq).trans HC0.out
    rw [← HN.out] at hc0
    by_cases hlt : k < N
    · have q1 : decide ((k : Int) < (N : Int)) = true := by simp; omega
      obtain ⟨rv, hv, o, rc, cs, rfl, ho, hle, hsz, hget⟩ := HM.out.rows k (by rw [← HN.out]; exact hlt)
      have c1 := cell_of HM.out.rim k
      rw [hv] at c1
      have hc1 : wr.cell? ⟨bo, k, none⟩ = _ := (HB.out.cell (p := ⟨bo, k, none⟩) (lt_of HM.out.rim)).trans c1
      rw [D.vers_length] at hc1
      have hr := HR.out k
      obtain ⟨M, hMM⟩ : ∃ M, M = (D.waits k).length := ⟨_, rfl⟩
      rw [← hMM] at hc1 hr
      have q3 : (k : Int) < (N : Int) := by omega
      have HS := Lib.hid (D.waitTo_succ k)
      clear c0 c1 hv ho hle hsz hget
      by_cases hM : M = 0
      · have hE : (D.waits k).isEmpty = true := by rw [List.isEmpty_iff_length_eq_zero]; omega
        have q4 : decide ((1 : Int) < (M : Int) + 1) = false := by simp; omega
        have HS2 : Hid (D.waitTo (k + 1) = D.waitTo k) := Lib.hid (by rw [HS.out, hE]; simp)
        clear hMM
        go_wp2_with fail
        go_round
        · exact ⟨k + 1, _, by omega, by simp, rfl, by rw [HS2.out]; exact HV, HB⟩
        · simp [intOf]; omega
      · have hE : (D.waits k).isEmpty = false := by cases hw : D.waits k with | nil => rw [hw] at hMM; exact absurd hMM hM | cons => rfl
        have q4 : decide ((1 : Int) < (M : Int) + 1) = true := by simp; omega
        have HS2 : Hid (D.waitTo (k + 1) = D.waitTo k ++ [k]) := Lib.hid (by rw [HS.out, hE]; simp)
        have hwl := waitTo_length D k
        clear hMM
        go_wp2_with ((with_reducible refine gate_op (.call { callee := .builtin .append, args := #[.tmp 23, .tmp 25], argTypes := #[54, 54] }) rfl ?_); refine wpList_append_lies _ rfl (.tmp 23) (.tmp 25) 54 rfl w.heap.size 3 i0 z0 1 8 Try.underlying54 HI0.out HZ0.out HZ1.out HZ2.out HZ3.out (by omega) v (D.waitTo k).length (natV (D.waitTo k)) rfl (HV.out.alloc _) ⟨wr.heap.size, 0, none⟩ 1 1 [.int .i64 k] rfl rfl (World.news_of_block (cs := #[.int .i64 k]) (heap_alloc_new wr _)) (by simp [Value.oneCell']) (by omega) (by unfold maxLen; omega) (by omega) (by have := HB.out.size; simp; omega) (wr.heap.size + 1) (by simp) ?_; intro g cp w1 hown1 hgrow hat hlt1)
        go_round
        · refine ⟨k + 1, _, by omega, by simp, rfl, Lib.hid ?_, Lib.hid ?_⟩
          · rw [HS2.out, List.length_append, List.length_singleton]
            have e : natV (D.waitTo k ++ [k]) = natV (D.waitTo k) ++ [.int .i64 k] := by simp [natV]
            rw [e]; exact hown1
          · refine (HB.out.alloc HB.out.size _).grown hgrow (by have := HB.out.size; simp; omega) (fun j hj => ?_)
            rcases HV.out.2 with ⟨h1, _⟩ | ⟨g', _, _, h1, h2, _⟩
            · rw [h1] at hj; simp [Value.ownBlock] at hj
            · rw [h1] at hj
              have : g' = j := by simpa [Value.ownBlock] using hj
              omega
        · simp [intOf]; omega
    · have q1 : decide ((k : Int) < (N : Int)) = false := by simp; omega
      have e : D.waiting = D.waitTo k := by
        have : k = D.lasts.length := by have := HN.out; omega
        subst this; rfl
      go_wp2_with fail
      go_ret
      refine ⟨v, rfl, ?_, HB.out⟩
      rw [e]; exact HV.out
end Go.Proofs.Ythbdlfkdemjpoaa
