/- What the second reference's New makes. No condition. -/
import Derived.Test.YthbdlfkdemjpoaaE0
import Derived.Test.YthbdlfkdemjpoaaR7
namespace Go.Proofs.Ythbdlfkdemjpoaa
open Go.RowKit Go.Maps
attribute [local go_sem ↓] Go.wp_at_zero Go.wp_at_succ

theorem zeroSec_bytes : (secV (List.replicate 64 0)) = secV zeroSec := rfl
theorem three_alloc (w : World) (o1 o2 o3 : Obj) (k : Nat) (hk : k < w.heap.size) : (((w.alloc o1).alloc o2).alloc o3).drew.heap[k]? = w.heap[k]? :=
  (Below.heap_alloc _ o3 k (by simp; omega)).trans (two_alloc w o1 o2 k hk)
theorem three_new (w : World) (o1 o2 o3 : Obj) : (((w.alloc o1).alloc o2).alloc o3).drew.heap[w.heap.size + 2]? = some o3 := by
  have := heap_alloc_new ((w.alloc o1).alloc o2) o3
  rw [show ((w.alloc o1).alloc o2).heap.size = w.heap.size + 2 by simp] at this
  exact this
theorem three_mid (w : World) (o1 o2 o3 : Obj) : (((w.alloc o1).alloc o2).alloc o3).drew.heap[w.heap.size + 1]? = some o2 :=
  (Below.heap_alloc _ o3 _ (by simp)).trans (two_new w o1 o2)
theorem own_ty {w : World} {B : Nat} {e : TypeId} {n : Nat} {v : Value} {xs : List Value} {g : Nat} (h : w.ownsRow B e 1 v n xs) (hg : v.ownBlock = some g) : ∃ cur, w.heap[g]? = some (.cells cur e (0, 0)) := by
  rcases h.2 with ⟨h1, _⟩ | ⟨g', cap, cur, h1, _, h2, _⟩
  · rw [h1] at hg; simp [Value.ownBlock] at hg
  · rw [h1] at hg
    have : g' = g := by simpa [Value.ownBlock] using hg
    exact ⟨cur, this ▸ h2⟩
def rowV (g : Nat) : Value := .slice (some ⟨g, 0, none⟩) 1 1
/-- The reference's New at work: k sectors are laid. -/
structure RNew (w0 w : World) (q k : Nat) (v : Value) (gs : Nat → Nat) : Prop where
  own : w.heap[q]? = some (.cells #[v, .int .i64 (-1)] 70 (0, 0))
  row : w.ownsRow w0.heap.size 67 1 v k ((List.range k).map fun i => rowV (gs i))
  each : ∀ i, i < k → w.heap[gs i]? = some (.cells #[secS zeroSec] 9 (0, 0)) ∧ w0.heap.size ≤ gs i
  inj : ∀ i j, i < k → j < k → gs i = gs j → i = j
  below : Below w0.heap.size w0 w
  hq : w0.heap.size ≤ q
theorem RNew.apart {w0 w : World} {q k : Nat} {v : Value} {gs : Nat → Nat} (h : RNew w0 w q k v gs) : v.ownBlock ≠ some q ∧ ∀ i, i < k → v.ownBlock ≠ some (gs i) ∧ gs i ≠ q := by
  refine ⟨fun e => ?_, fun i hi => ⟨fun e => ?_, fun e => ?_⟩⟩
  · obtain ⟨cur, hc⟩ := own_ty h.row e
    rw [h.own] at hc; injection hc with a; injection a with _ a; exact absurd a (by decide)
  · obtain ⟨cur, hc⟩ := own_ty h.row e
    rw [(h.each i hi).1] at hc; injection hc with a; injection a with _ a; exact absurd a (by decide)
  · have := (h.each i hi).1
    rw [e, h.own] at this; injection this with a; injection a with _ a; exact absurd a (by decide)
theorem RNew.more {w0 w V w1 : World} {q k g2 g cp : Nat} {v : Value} {gs : Nat → Nat} (h : RNew w0 w q k v gs) (hV : Below w.heap.size w V) (hg2 : V.heap[g2]? = some (.cells #[secS zeroSec] 9 (0, 0))) (hge : w.heap.size ≤ g2)
    (hown : w1.ownsRow w0.heap.size 67 1 (.slice (some ⟨g, 0, none⟩) (k + 1) cp) (k + 1) (((List.range k).map fun i => rowV (gs i)) ++ [rowV g2])) (hgr : V.grownBy w1 v.ownBlock) :
    RNew w0 (w1.setCell ⟨q, 0, none⟩ (.slice (some ⟨g, 0, none⟩) (k + 1) cp)) q (k + 1) (.slice (some ⟨g, 0, none⟩) (k + 1) cp) (fun i => if i < k then gs i else g2) := by
  obtain ⟨a1, a2⟩ := h.apart
  have hql := lt_of h.own
  have hg2l := lt_of hg2
  have hq1 : w1.heap[q]? = some (.cells #[v, .int .i64 (-1)] 70 (0, 0)) := (hgr.block q (Nat.lt_of_lt_of_le hql hV.size) (Ne.symm a1)).trans ((hV.block q hql).trans h.own)
  have hvl : ∀ j, v.ownBlock = some j → w0.heap.size ≤ j ∧ j < w.heap.size := h.row.lt
  have e1 : ((List.range k).map fun i => rowV (gs i)) ++ [rowV g2] = (List.range (k + 1)).map fun i => rowV (if i < k then gs i else g2) := by
    rw [List.range_succ, List.map_append]
    congr 1
    · exact List.map_congr_left fun i hi => by rw [if_pos (by simpa using hi)]
    · simp
  have hg2w : w1.heap[g2]? = some (.cells #[secS zeroSec] 9 (0, 0)) := (hgr.block g2 hg2l (fun e => by have := (hvl g2 e.symm).2; omega)).trans hg2
  have hgq : g ≠ q := fun e => by
    obtain ⟨cur, hc⟩ := own_ty hown (g := g) rfl
    rw [e, hq1] at hc; injection hc with a; injection a with _ a; exact absurd a (by decide)
  have far : ∀ j, j ≠ q → (w1.setCell ⟨q, 0, none⟩ (.slice (some ⟨g, 0, none⟩) (k + 1) cp)).heap[j]? = w1.heap[j]? := fun j hj => Below.heap_setCell _ _ _ _ hj
  refine ⟨?_, ?_, fun i hi => ?_, fun i j hi hj e => ?_, ?_, h.hq⟩
  · have := heap_setCell_row (o := 0) hq1 (.slice (some ⟨g, 0, none⟩) (k + 1) cp)
    simpa using this
  · rw [← e1]
    refine ⟨hown.1, ?_⟩
    rcases hown.2 with ⟨h1, _⟩ | ⟨g', cap, cur, h1, h2, h3, h4⟩
    · cases h1
    · cases h1
      exact .inr ⟨g, cp, cur, rfl, h2, (far g hgq).trans h3, h4⟩
  · by_cases hik : i < k
    · simp only [if_pos hik]
      obtain ⟨b1, b2⟩ := h.each i hik
      refine ⟨(far _ (a2 i hik).2).trans ((hgr.block _ (Nat.lt_of_lt_of_le (lt_of b1) hV.size) (Ne.symm (a2 i hik).1)).trans ((hV.block _ (lt_of b1)).trans b1)), b2⟩
    · simp only [if_neg hik]
      exact ⟨(far g2 (by omega)).trans hg2w, Nat.le_trans h.below.size hge⟩
  · by_cases hik : i < k
    · by_cases hjk : j < k
      · simp only [if_pos hik, if_pos hjk] at e
        exact h.inj i j hik hjk e
      · simp only [if_pos hik, if_neg hjk] at e
        have := lt_of (h.each i hik).1
        omega
    · by_cases hjk : j < k
      · simp only [if_neg hik, if_pos hjk] at e
        have := lt_of (h.each j hjk).1
        omega
      · omega
  · refine Below.setCell ?_ (by simpa using h.hq) _
    have h1 : Below w0.heap.size w0 V := h.below.trans (hV.mono h.below.size)
    exact h1.grown hgr h1.size (fun j hj => (hvl j hj).1)
theorem RNew.done {w0 w : World} {q k : Nat} {v : Value} {gs : Nat → Nat} (h : RNew w0 w q k v gs) (h1 : 1 ≤ k) (h2 : k ≤ 4096) : Rk w0.heap.size w q (fun j => w0.heap.size ≤ j ∧ j < w.heap.size) (freshD k) := by
  rcases h.row.2 with ⟨_, h0⟩ | ⟨bo, cap, cur, hv, hb, hr, hle, _, hsz, htk⟩
  · omega
  · have hl : (freshD k).lasts.length = k := by simp [freshD]
    refine ⟨⟨by rw [hl]; exact h1, by rw [hl]; exact h2, fun s hs => by simp only [freshD] at hs; rw [List.eq_of_mem_replicate hs]; rfl, fun _ s hs => by simp [freshD] at hs, fun i hi => by simp [freshD] at hi, by simp [freshD]⟩, ⟨bo, cap, cur, gs, ?_⟩, fun _ h => h, h.below.size⟩
    refine ⟨by rw [hl, ← hv]; exact h.own, hr, by rw [hl, hsz]; omega, fun i hi => ?_, fun i j hi hj => h.inj i j (by rwa [hl] at hi) (by rwa [hl] at hj), ⟨h.hq, lt_of h.own⟩, ⟨hb, lt_of hr⟩, fun i hi => ⟨(h.each i (by rwa [hl] at hi)).2, lt_of (h.each i (by rwa [hl] at hi)).1⟩⟩
    rw [hl] at hi
    have hc : cur[i]? = some (rowV (gs i)) := by
      have h3 : (cur.toList.take (k * 1))[i]? = ((List.range k).map fun i => rowV (gs i))[i]? := by rw [htk]
      rw [List.getElem?_take, if_pos (by omega)] at h3
      rw [← Array.getElem?_toList, h3]
      simp [hi]
    refine ⟨_, hc, 0, 1, _, ?_, (h.each i hi).1, by simp [DS.vers, freshD], by simp, fun j hj => ?_⟩
    · simp [rowV, DS.vers, freshD]
    · have hj0 : j = 0 := by simpa [DS.vers, freshD] using hj
      subst hj0
      simp [DS.vers, freshD, hi, List.getD_eq_getElem?_getD]

theorem Try.infoRow : (Try.prog.info? 67).map (fun i => (i.zero.map (·.cells), i.size, i.bytes)) = some (some #[.slice none 0 0], 1, 24) := by kernel_rfl
set_option maxHeartbeats 1000000 in
theorem rnew_bad (n : Int) (w : World) (h : n < 1 ∨ 4096 < n) : Calls Try.prog 22 #[.int .i64 n] w fun e w' => e = .returned (.tuple #[.pointer none, .int .i64 1]) ∧ w = w' := by
  by_cases h1 : n < 1
  · have q1 : decide (n < 1) = true := by simpa using h1
    go_enter Try.func22, Try.ntmps22
    go_wp2_with fail
    go_ret2
    exact ⟨rfl, rfl⟩
  · have q1 : decide (n < 1) = false := by simpa using h1
    have q2 : decide (4096 < n) = true := by simp; omega
    go_enter Try.func22, Try.ntmps22
    go_wp2_with fail
    go_ret2
    exact ⟨rfl, rfl⟩
set_option maxRecDepth 100000 in
set_option maxHeartbeats 4000000 in
theorem rnew_ok (n : Nat) (w : World) (h1 : 1 ≤ n) (h2 : n ≤ 4096) : Calls Try.prog 22 #[.int .i64 n] w fun e w' => ∃ q T, e = .returned (.tuple #[.pointer (some ⟨q, 0, none⟩), .int .i64 0]) ∧ Rk w.heap.size w' q T (freshD n) ∧ Below w.heap.size w w' := by
  obtain ⟨i0, hi0, z0, hz0, hz1, hz2, hz3⟩ : ∃ i0, Try.prog.info? 67 = some i0 ∧ ∃ z, i0.zero = some z ∧ i0.size = 1 ∧ i0.bytes = 24 ∧ z.cells.size = 1 := by
    have := Try.infoRow
    cases h : Try.prog.info? 67 with
    | none => rw [h] at this; cases this
    | some i =>
      rw [h] at this
      simp only [Option.map_some, Option.some.injEq, Prod.mk.injEq, Option.map_eq_some_iff] at this
      obtain ⟨⟨z, h1, h2⟩, h3, h4⟩ := this
      exact ⟨i, rfl, z, h1, h3, h4, by rw [h2]; rfl⟩
  have HI0 := Lib.hid hi0; have HZ0 := Lib.hid hz0; have HZ1 := Lib.hid hz1; have HZ2 := Lib.hid hz2; have HZ3 := Lib.hid hz3
  have q1 : decide ((n : Int) < 1) = false := by simp; omega
  have q2 : decide (4096 < (n : Int)) = false := by simp; omega
  have hb : ∀ W : World, (Instr.build 70 #[(1, .int .i64 (-1))]).run Try.prog W = .ok (.agg #[.slice none 0 0, .int .i64 (-1)]) W := fun W => run_build W _ _ _ (by kernel_rfl)
  have H0 : Hid (RNew w (w.alloc (.cells #[.slice none 0 0, .int .i64 (-1)] 70)) w.heap.size 0 (.slice none 0 0) (fun _ => 0)) := Lib.hid ⟨heap_alloc_new w _, World.ownsRow_nil _ _ _ _, fun i hi => by omega, fun i j hi => by omega, (Below.refl _ _).alloc (Nat.le_refl _) _, Nat.le_refl _⟩
  clear hi0 hz0 hz1 hz2 hz3
  go_enter Try.func22, Try.ntmps22
  go_wp2_with fail
  clear hb
  obtain ⟨q, hq⟩ : ∃ q, q = w.heap.size := ⟨_, rfl⟩
  rw [← hq] at H0 ⊢
  obtain ⟨W0, hW0⟩ : ∃ W0, W0 = w.alloc (.cells #[.slice none 0 0, .int .i64 (-1)] 70) := ⟨_, rfl⟩
  rw [← hW0] at H0 ⊢
  clear hW0 hq
  go_loopw [5] (fun i wr => ∃ (k : Nat) (v : Value) (gs : Nat → Nat), k ≤ n ∧ i = .int .i64 k ∧ Hid (RNew w wr q k v gs)) (fun i _ => 5000 - (intOf i).toNat)
  case atStart => exact ⟨0, _, _, by omega, rfl, H0⟩
  case round =>
    obtain ⟨k, v, gs, hk, rfl, HR⟩ := hrel
    by_cases hlt : k < n
    · have p1 : decide ((k : Int) < (n : Int)) = true := by simp; omega
      have cq : wr.cell? ⟨q, 0, none⟩ = some v := by rw [cell_of HR.out.own 0]; rfl
      have hql : q < wr.heap.size := lt_of HR.out.own
      have HKQ : Hid (∀ W : World, W.heap[q]? = wr.heap[q]? → W.cell? ⟨q, 0, none⟩ = some v) := Lib.hid (fun W hW => by rw [cell_of (hW.trans HR.out.own) 0]; rfl)
      go_wp2_with fail
      refine wp_region_E (fun w' => w'.cell? ⟨q, 0, none⟩ = some v) 12 (by kernel_rfl) (by kernel_rfl) cq (fun hHeld => ?_)
      have km : (Instr.makeSlice 22 (.int .i64 64) (.int .i64 64)).run Try.prog wr.drew = .ok (.slice (some ⟨wr.heap.size, 0, none⟩) 64 64) (wr.drew.alloc (.cells (zerosC 64) 5)) := make_bytes wr.drew 64 (by omega)
      have kz : (convert 22 9 (.slice (some ⟨wr.heap.size, 0, none⟩) 64 64)).run Try.prog (wr.alloc (.cells (zerosC 64) 5)).drew = .ok (.string ⟨zeroSec.toArray⟩) (wr.alloc (.cells (zerosC 64) 5)).drew := conv_zeros (wr.alloc (.cells (zerosC 64) 5)).drew wr.heap.size 64 (zeros_bytes wr 64)
      (refine wpE_take (i := 0) 19 (v := ?_) (by kernel_rfl) rfl rfl (by decide) (by kernel_rfl) (by kernel_rfl) (fun _ _ _ h => h) (Or.inl ⟨by rfl, ?_⟩) (by assumption) ?_; rotate_left; (focus (intro w hSw; (try dsimp only at hSw); go_simp; try with_reducible rfl)); (try simp only [Act.put, List.setIfInBounds_toArray, List.set_cons_zero, List.set_cons_succ]))
      (refine wpE_take (i := 1) 20 (v := ?_) (by kernel_rfl) rfl rfl (by decide) (by kernel_rfl) (by kernel_rfl) (fun _ _ _ h => h) (Or.inl ⟨by rfl, ?_⟩) (by assumption) ?_; rotate_left; (focus (intro w hSw; (try dsimp only at hSw); go_simp; try with_reducible rfl)); (try simp only [Act.put, List.setIfInBounds_toArray, List.set_cons_zero, List.set_cons_succ]))
      (refine wpE_take (i := 2) 21 (v := ?_) (by kernel_rfl) rfl rfl (by decide) (by kernel_rfl) (by kernel_rfl) (fun _ _ _ h => h) (Or.inl ⟨by rfl, ?_⟩) (by assumption) ?_; rotate_left; (focus (intro w hSw; (try dsimp only at hSw); go_simp; try with_reducible rfl)); (try simp only [Act.put, List.setIfInBounds_toArray, List.set_cons_zero, List.set_cons_succ]))
      (refine wpE_take (i := 3) 22 (v := ?_) (by kernel_rfl) rfl rfl (by decide) (by kernel_rfl) (by kernel_rfl) (fun _ _ _ h => h) (Or.inl ⟨by rfl, ?_⟩) (by assumption) ?_; rotate_left; (focus (intro w hSw; (try dsimp only at hSw); go_simp; try with_reducible rfl)); (try simp only [Act.put, List.setIfInBounds_toArray, List.set_cons_zero, List.set_cons_succ]))
      (refine wpE_take (i := 4) 23 (v := ?_) (by kernel_rfl) rfl rfl (by decide) (by kernel_rfl) (by kernel_rfl) (fun _ _ _ h => h) (Or.inl ⟨by rfl, ?_⟩) (by assumption) ?_; rotate_left; (focus (intro w hSw; (try dsimp only at hSw); go_simp; try with_reducible rfl)); (try simp only [Act.put, List.setIfInBounds_toArray, List.set_cons_zero, List.set_cons_succ]))
      (refine wpE_one (i := 5) rfl (by kernel_rfl) (by decide) (fun K hK => ?_); go_simp; refine hK.out _ _ ?_ (fun hHeld2 => ?_); (focus (exact HKQ.out _ (Below.heap_alloc _ _ _ hql))); clear hK K; clear hHeld; have hHeld := hHeld2; clear hHeld2; (try simp only [Act.put, List.setIfInBounds_toArray, List.set_cons_zero, List.set_cons_succ]))
      clear km
      (refine wpE_one (i := 6) rfl (by kernel_rfl) (by decide) (fun K hK => ?_); go_simp; refine hK.out _ _ ?_ (fun hHeld2 => ?_); (focus (exact HKQ.out _ (Below.heap_alloc _ _ _ hql))); clear hK K; clear hHeld; have hHeld := hHeld2; clear hHeld2; (try simp only [Act.put, List.setIfInBounds_toArray, List.set_cons_zero, List.set_cons_succ]))
      clear kz
      (refine wpE_one (i := 7) rfl (by kernel_rfl) (by decide) (fun K hK => ?_); go_simp; refine hK.out _ _ ?_ (fun hHeld2 => ?_); (focus (exact HKQ.out _ (two_alloc wr _ _ q hql))); clear hK K; clear hHeld; have hHeld := hHeld2; clear hHeld2; (try simp only [Act.put, List.setIfInBounds_toArray, List.set_cons_zero, List.set_cons_succ]))
      (refine wpE_one (i := 8) rfl (by kernel_rfl) (by decide) (fun K hK => ?_); go_simp; refine hK.out _ _ ?_ (fun hHeld2 => ?_); (focus (exact HKQ.out _ (three_alloc wr _ _ _ q hql))); clear hK K; clear hHeld; have hHeld := hHeld2; clear hHeld2; (try simp only [Act.put, List.setIfInBounds_toArray, List.set_cons_zero, List.set_cons_succ]))
      refine wpE_one (i := 9) (o := { dst := some 28, op := .call { callee := .builtin .append, args := #[.tmp 23, .tmp 27], argTypes := #[68, 68] }, type := _, pos := _, after := _, guard := none }) rfl (by kernel_rfl) (by decide) (fun K hK => ?_)
      refine step_append_lies _ (by rfl) _ _ 68 (by rfl) w.heap.size 67 i0 z0 1 24 Try.underlying68 HI0.out HZ0.out HZ1.out HZ2.out HZ3.out (by omega) v k _ (by rfl) (((HR.out.row.alloc _).alloc _).alloc _) ⟨wr.heap.size + 2, 0, none⟩ 1 1 [rowV (wr.heap.size + 1)] (by rfl) rfl (World.news_of_block (cs := #[rowV (wr.heap.size + 1)]) (three_new wr _ _ _)) (by simp [rowV, Value.oneCell']) (by omega) (by unfold maxLen; omega) (by omega) (by have := HR.out.below.size; simp; omega) (wr.heap.size + 3) (by simp) ?_
      intro g cp w1 hown1 hgrow hat hlt1
      have hw1 : w1.heap[q]? = wr.heap[q]? := (hgrow.block q (by simp; omega) (Ne.symm HR.out.apart.1)).trans (three_alloc wr _ _ _ q hql)
      have hf1 : w1.frozen? ⟨q, 0, none⟩ = false := frozen_of (hw1.trans HR.out.own) 0
      refine hK.out _ _ ?_ (fun hHeld2 => ?_); (focus (exact HKQ.out _ hw1)); clear hK K; clear hHeld; have hHeld := hHeld2; clear hHeld2; (try simp only [Act.put, List.setIfInBounds_toArray, List.set_cons_zero, List.set_cons_succ])
      (refine wpE_take (i := 10) 29 (v := ?_) (by kernel_rfl) rfl rfl (by decide) (by kernel_rfl) (by kernel_rfl) (fun _ _ _ h => h) (Or.inl ⟨by rfl, ?_⟩) (by assumption) ?_; rotate_left; (focus (intro w hSw; (try dsimp only at hSw); go_simp; try with_reducible rfl)); (try simp only [Act.put, List.setIfInBounds_toArray, List.set_cons_zero, List.set_cons_succ]))
      (refine wpE_take (i := 11) 30 (v := ?_) (by kernel_rfl) rfl rfl (by decide) (by kernel_rfl) (by kernel_rfl) (fun _ _ _ h => h) (Or.inl ⟨by rfl, ?_⟩) (by assumption) ?_; rotate_left; (focus (intro w hSw; (try dsimp only at hSw); go_simp; try with_reducible rfl)); (try simp only [Act.put, List.setIfInBounds_toArray, List.set_cons_zero, List.set_cons_succ]))
      have HD := Lib.hid (HR.out.more (V := (((wr.alloc (.cells (zerosC 64) 5)).alloc (.cells #[secS zeroSec] 9)).alloc (.cells #[rowV (wr.heap.size + 1)] 67)).drew) ((((((Below.refl _ _).alloc (Nat.le_refl _) _).alloc (by simp) _).alloc (by simp; omega) _)).drew) (three_mid wr _ _ _) (by omega) hown1 hgrow)
      refine wpE_end rfl (by kernel_rfl) (by kernel_rfl) (fun K hK => ?_); go_simp
      refine hK.out _ _ ?_
      clear hK K hown1 hgrow hHeld hf1 hw1
      go_wp2_with fail
      go_round
      · exact ⟨k + 1, _, _, by omega, by simp, by simpa using HD⟩
      · simp [intOf]; omega
    · have p1 : decide ((k : Int) < (n : Int)) = false := by simp; omega
      obtain rfl : n = k := by omega
      have HD := Lib.hid (HR.out.done h1 h2)
      go_wp2_with fail
      go_ret2
      exact ⟨q, _, rfl, HD.out, HR.out.below⟩
end Go.Proofs.Ythbdlfkdemjpoaa
