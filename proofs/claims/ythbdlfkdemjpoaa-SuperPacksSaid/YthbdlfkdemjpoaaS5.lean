/- What the sector package's Write does to a disk that takes it. No condition. -/
import Derived.Test.YthbdlfkdemjpoaaS4
namespace Go.Proofs.Ythbdlfkdemjpoaa
open Go.RowKit Go.Maps
attribute [local go_sem ↓] Go.wp_at_zero Go.wp_at_succ

theorem fold_rule {s : Sec} (Z : Array Value) (h : (secV s).length = 64) (hz : Z.size = 64) : List.foldl (fun cs (x : Value × Nat) => cs.setIfInBounds x.2 x.1) Z (secV s).zipIdx = (secV s).toArray := by
  rw [foldl_set_all (secV s) 0 Z (by rw [h, hz])]
  simp
attribute [local go_sem] fold_rule
set_option maxRecDepth 100000 in
set_option maxHeartbeats 2000000 in
theorem write_ok (p : Nat) (S : Nat → Prop) (D : DS) (i : Nat) (A : Option Addr) (l : List UInt8) (c : Nat) (w : World) (h : DiskAt w p S D) (hf : D.fuse ≠ 0) (hi : i < D.lasts.length) (hA : Bytes w A l) (hl : l.length ≤ 64) (hroom : (D.waits i).length ≤ 1000000) :
    Calls Try.prog 23 #[.pointer (some ⟨p, 0, none⟩), .int .i64 i, .slice A l.length c] w fun e w' => e = .returned (.int .i64 0) ∧ DiskAt w' p (fun k => S k ∨ w.heap.size ≤ k) (D.write i l) ∧ Kept S w w' := by
  have hb := burnt_any p S D w h
  rw [show D.burnt = 0 by simp [DS.burnt, hf]] at hb
  have HB := Lib.hid hb
  have hok := h.ok
  obtain ⟨_, bl, bm, clock, rs, hm⟩ := h
  have c0 := cell_of hm.own 0
  have c1 := cell_of hm.own 1
  simp only [List.getElem?_toArray, List.getElem?_cons_succ, List.getElem?_cons_zero] at c0 c1
  have hlt : p < w.heap.size := lt_of hm.own
  have hms := hok.most
  have q1 : (0 : Int) ≤ (i : Int) := by omega
  have q2 : (i : Int) < (D.lasts.length : Int) := by omega
  have q3 : decide ((64 : Int) < (l.length : Int)) = false := by simp; omega
  have hcp := run_copy_fresh w A l c hA hl
  have hpl : (pad l).length = 64 := pad_length hl
  obtain ⟨s, hs⟩ : ∃ s, s = pad l := ⟨_, rfl⟩
  rw [← hs] at hcp hpl
  have HS := Lib.hid hs
  have HLEN := Lib.hid hl
  clear hb hf hA hs hl
  obtain ⟨w0, hw0⟩ : ∃ w0, w0 = w.alloc (.cells (secV s).toArray 97) := ⟨_, rfl⟩
  rw [← hw0] at hcp
  have hm0 : DiskMem w0 p S D bl bm clock rs := hm.fix fun k _ hk => by rw [hw0]; exact Below.heap_alloc _ _ _ hk
  have hg0 : w0.heap[w.heap.size]? = some (.cells (secV s).toArray 97 (0, 0)) := by rw [hw0]; exact heap_alloc_new w _
  have hsz : w0.heap.size = w.heap.size + 1 := by rw [hw0]; simp
  have c1' : w0.cell? ⟨p, 1, none⟩ = some (.map (some bm)) := by have := cell_of hm0.own 1; simpa using this
  have hr0 : w0.rangeAt w.heap.size 0 (secV s) := fun j v hv => by rw [Nat.zero_add, cell_of hg0]; simpa using hv
  have hk0 : Kept S w w0 := by rw [hw0]; exact (Kept.refl S w).alloc _
  obtain ⟨v, hv, hown, hsl⟩ := hm0.slot i
  have hnp : some p ≠ v.ownBlock := fun e => by
    rcases hown.2 with ⟨rfl, _⟩ | ⟨g', cap', cur, rfl, _, h2, _⟩
    · simp [Value.ownBlock] at e
    · have : p = g' := by simpa [Value.ownBlock] using e
      subst this
      have h3 := hm0.own
      rw [h3] at h2
      injection h2 with a; injection a with _ a; exact absurd a (by decide)
  have hnb : some bm ≠ v.ownBlock := fun e => by
    rcases hown.2 with ⟨rfl, _⟩ | ⟨g', cap', cur, rfl, _, h2, _⟩
    · simp [Value.ownBlock] at e
    · have : bm = g' := by simpa [Value.ownBlock] using e
      subst this
      rw [hm0.map] at h2; cases h2
  have hng : some w.heap.size ≠ v.ownBlock := fun e => by
    have h1 := hsl w.heap.size e.symm
    obtain ⟨r, hr, _, hrv⟩ := h1.2.2.2
    obtain ⟨j, a, b, hj, _⟩ := hm.rows r hr
    obtain ⟨v2, hv2, ho2, hs2⟩ := hm.slot j
    have e2 : v2 = v := by rw [← hv2, ← a, mfind_of_mem hm.nodup hr, Option.getD_some, hrv]
    rw [e2] at hs2
    have := (hs2 w.heap.size e.symm).2.2.1
    omega
  have hks : ∀ W : World, (∀ k, k < w0.heap.size → k ≠ bm → some k ≠ v.ownBlock → W.heap[k]? = w0.heap[k]?) → W.cell? ⟨p, 1, none⟩ = some (.map (some bm)) ∧ W.rangeAt w.heap.size 0 (secV s) := by
    intro W hW
    have hpm : p ≠ bm := fun e => by have a := hm0.own; rw [e, hm0.map] at a; cases a
    have hgm : w.heap.size ≠ bm := fun e => by rw [e, hm0.map] at hg0; cases hg0
    refine ⟨?_, ?_⟩
    · rw [World.cell?_of_block (w := w0) (hW p (by omega) hpm hnp)]; exact c1'
    · intro j u hu
      rw [World.cell?_of_block (w := w0) (hW w.heap.size (by omega) hgm hng)]
      exact hr0 j u hu
  have hlk : ∀ W : World, W.heap[bm]? = w0.heap[bm]? → (Instr.lookup 93 (.map (some bm)) (.int .i64 i) false).run Try.prog W = .ok v W := by
    intro W hW
    have := run_lookup (P := Try.prog) (w := W) (t := 93) Try.underlying93 Try.underlying3 (int_keys .i64) rs (hW.trans hm0.map) (lookup_zero _) (i : Int) false
    rw [this]
    simp only [Bool.false_eq_true, if_false, hv]
  have hlk1 := hlk w0.drew rfl
  have hlk2 := hlk (w0.alloc (.cells (secV s).toArray 97)).drew (Below.heap_alloc _ _ _ (lt_of hm0.map))
  clear hlk
  obtain ⟨i0, hi0, z0, hz0, hz1, hz2, hz3⟩ : ∃ i0, Try.prog.info? 97 = some i0 ∧ ∃ z, i0.zero = some z ∧ i0.size = 64 ∧ i0.bytes = 64 ∧ z.cells.size = 64 := by
    have := Try.infoSec
    cases h : Try.prog.info? 97 with
    | none => rw [h] at this; cases this
    | some i =>
      rw [h] at this
      simp only [Option.map_some, Option.some.injEq, Prod.mk.injEq, Option.map_eq_some_iff] at this
      obtain ⟨⟨z, h1, h2⟩, h3, h4⟩ := this
      exact ⟨i, rfl, z, h1, h3, h4, by rw [h2]; rfl⟩
  have hu := Try.underlying97
  have hisz : (Try.prog.info? 97).map (·.size) = some (secV s).length := by rw [secV_length, hpl]; kernel_rfl
  have hsl64 : (secV s).length = 64 := by rw [secV_length, hpl]
  have h1c : ∀ v ∈ secV s, v.oneCell' = true := fun v hv => secV_one hv
  have hmu : ∀ (W : World) (v' : Value), W.heap[bm]? = w0.heap[bm]? → (Instr.mapUpdate 93 (.map (some bm)) (.int .i64 i) v').run Try.prog W = .ok () (setObj W bm (.map ((mput rs (i : Int) v' clock).map (MRow.e (Value.int .i64))).toArray (mclock rs (i : Int) clock))) := fun W v' hW =>
    run_mapUpdate (P := Try.prog) (w := W) (t := 93) Try.underlying93 Try.underlying3 (int_keys .i64) rs hm0.nodup (hW.trans hm0.map) (i : Int) v'
  have HKS := Lib.hid hks; have HMU := Lib.hid hmu; have HNB := Lib.hid hnb; have HSL64 := Lib.hid hsl64
  have HI0 := Lib.hid hi0; have HZ0 := Lib.hid hz0; have HZ1 := Lib.hid hz1; have HZ2 := Lib.hid hz2; have HZ3 := Lib.hid hz3
  clear hks hmu hnb hnp hng hi0 hz0 hz1 hz2 hz3
  have HK0 := Lib.hid hk0; have HM0 := Lib.hid hm0; have HG0 := Lib.hid hg0; have HW0 := Lib.hid hw0; have HO := Lib.hid hok; have HSZ := Lib.hid hsz
  have HV := Lib.hid hv; have HOWN := Lib.hid hown; have HSL := Lib.hid hsl; have HI := Lib.hid hi; have HPL := Lib.hid hpl
  clear hm hok hm0 hg0 hw0 hk0 hsz hv hown hsl hi hpl
  go_enter Try.func23, Try.ntmps23
  go_wp2_with (first | (go_at_call 53; refine HB.out.mono ?_; rintro e w' ⟨rfl, rfl⟩) | ((with_reducible refine gate_op (.alloc 97) rfl ?_); refine wpList_alloc_of rfl 97 rfl _ (run_alloc_sec w) ?_))
  clear hcp
  have HH1C := Lib.hid h1c
  go_region_held3 (fun w' => w'.cell? ⟨p, 1, none⟩ = some (.map (some bm)) ∧ w'.rangeAt w.heap.size 0 (secV s))
    (first | exact HKS.out _ (fun k hk _ _ => rfl) | exact HKS.out _ (fun k hk _ _ => Below.heap_alloc _ _ _ hk) | exact HKS.out _ (fun k hk _ hne => (hgrow.block k (by simp; omega) hne).trans (Below.heap_alloc _ _ _ hk)) | exact HKS.out _ (fun k hk hnb hne => (heap_setObj_ne _ _ _ _ hnb).trans ((hgrow.block k (by simp; omega) hne).trans (Below.heap_alloc _ _ _ hk))))
    ((refine step_append_lies _ (by rfl) _ _ _ (by rfl) 0 97 i0 z0 64 64 Try.underlying92 HI0.out HZ0.out HZ1.out HZ2.out HZ3.out (by omega) v (D.waits i).length (flat (D.waits i)) (by rfl) ((HOWN.out.alloc _).drew) ⟨w0.heap.size, 0, none⟩ 1 1 (secV s) (by rfl) (by rw [HSL64.out]) (World.news_of_block (cs := (secV s).toArray) (t := 97) (fr := (0, 0)) (heap_alloc_new w0 _)) HH1C.out (by omega) (by unfold maxLen; omega) (by omega) (by omega) (w0.heap.size + 1) (by simp) ?_; intro g cap w1 hown1 hgrow hat hlt1; have hmu := HMU.out w1 (.slice (some ⟨g, 0, none⟩) ((D.waits i).length + 1) cap) ((hgrow.block bm (by have := lt_of HM0.out.map; simp; omega) HNB.out).trans (Below.heap_alloc _ _ _ (lt_of HM0.out.map)))))
  all_goals
    have hmW := HM0.out.fix (w' := (w0.alloc (.cells (secV s).toArray 97)).drew) (fun k _ hk => Below.heap_alloc _ _ _ hk)
    have hput := hmW.put HO.out i HI.out s HV.out hgrow hown1 (by rcases hat with h | h; exact .inl h; exact .inr (by rw [h]; simp))
    have hD : DiskAt _ p _ (D.put i s) := ⟨DS.put_ok HO.out i s HI.out HPL.out, _, _, _, _, hput⟩
    have hK : Kept S w (setObj w1 bm (.map ((mput rs (i : Int) (.slice (some ⟨g, 0, none⟩) ((D.waits i).length + 1) cap) clock).map (MRow.e (Value.int .i64))).toArray (mclock rs (i : Int) clock))) := by
      refine Kept.setObj (Kept.grown ((HK0.out.alloc _).drew) hgrow (fun k hk _ => (HSL.out k hk).1)) bm _ (fun _ => HM0.out.sm)
    have HD := Lib.hid hD
    have HKK := Lib.hid hK
    clear hmW hput hD hK hmu hgrow hown1 hat hlk1 hlk2 hu hisz hsl64 h1c
    go_wp2_with (go_at_call 54; refine (burns_any p _ _ _ HD.out).mono ?_; rintro e w' ⟨rfl, hd, hk⟩)
    go_ret
    refine ⟨rfl, ?_, ?_⟩
    · rw [DS.write, ← HS.out]
      exact hd.mono fun k hk => hk.elim .inl (fun h => .inr (by have := HSZ.out; simp at h; omega))
    · refine HKK.out.trans' hk (fun k hk h => h.elim id (fun h => absurd hk (by have := HSZ.out; simp at h; omega)))
end Go.Proofs.Ythbdlfkdemjpoaa
