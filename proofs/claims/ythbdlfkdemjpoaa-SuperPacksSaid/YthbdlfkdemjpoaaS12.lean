/- The sector package's Copy of a disk of which nothing waits. No condition. -/
import Derived.Test.YthbdlfkdemjpoaaS10
import Derived.WalkSpells
namespace Go.Proofs.Ythbdlfkdemjpoaa
open Go.RowKit Go.Maps

theorem infoSec_parts : ∃ i0, Try.prog.info? 97 = some i0 ∧ ∃ z, i0.zero = some z ∧ i0.size = 64 ∧ i0.bytes = 64 ∧ z.cells.size = 64 := by
  have := Try.infoSec
  cases h : Try.prog.info? 97 with
  | none => rw [h] at this; cases this
  | some i =>
    rw [h] at this
    simp only [Option.map_some, Option.some.injEq, Prod.mk.injEq, Option.map_eq_some_iff] at this
    obtain ⟨⟨z, h1, h2⟩, h3, h4⟩ := this
    exact ⟨i, rfl, z, h1, h3, h4, by rw [h2]; simp⟩
set_option maxRecDepth 100000 in
set_option maxHeartbeats 1000000 in
theorem clone_sec (bl n cap : Nat) (cs : Array Value) (l : List Sec) (w : World) (hl : l.length = n) (h1 : 1 ≤ n) (h2 : n ≤ 4096) (hw : ∀ s ∈ l, s.length = 64) (hlasts : w.heap[bl]? = some (.cells cs 97 (0, 0))) (htake : cs.toList.take (n * 64) = flat l) :
    Calls Try.prog 70 #[.slice (some ⟨bl, 0, none⟩) n cap] w fun e w' => ∃ g cp, e = .returned (.slice (some ⟨g, 0, none⟩) n cp) ∧ w'.ownsRow w.heap.size 97 64 (.slice (some ⟨g, 0, none⟩) n cp) n (flat l) ∧ Below w.heap.size w w' := by
  obtain ⟨i0, hi0, z0, hz0, hz1, hz2, hz3⟩ := infoSec_parts
  have HI0 := Lib.hid hi0; have HZ0 := Lib.hid hz0; have HZ1 := Lib.hid hz1; have HZ2 := Lib.hid hz2; have HZ3 := Lib.hid hz3
  have hfl : (flat l).length = n * 64 := by rw [flat_length hw, hl]
  have hnews : ∀ o, ∀ j u, (flat l)[j]? = some u → (w.alloc o).cell? ((⟨bl, 0, none⟩ : Addr).add j) = some u := fun o j u hu => by
    have hj : j < n * 64 := by have := (List.getElem?_eq_some_iff.1 hu).1; omega
    have e : (⟨bl, 0, none⟩ : Addr).add j = ⟨bl, j, none⟩ := by unfold Addr.add; split <;> simp_all
    rw [e, cell_of ((Below.heap_alloc w o bl (lt_of hlasts)).trans hlasts), ← Array.getElem?_toList, ← hu, ← htake, List.getElem?_take, if_pos hj]
  have hone : ∀ u ∈ flat l, u.oneCell' = true := fun u hu => by
    obtain ⟨s, _, hs⟩ := List.mem_flatMap.1 hu
    exact secV_one hs
  have HFL := Lib.hid hfl; have HN := Lib.hid hnews; have HO := Lib.hid hone
  clear hi0 hz0 hz1 hz2 hz3 hfl hnews hone hl hw hlasts htake
  have hnil : ∀ W : World, (binOp .eql 92 (.slice (some ⟨bl, 0, none⟩) n cap) (.slice none 0 0)).run Try.prog W = .ok (.bool false) W := fun W => Lib.run_eql_slice_nil W _ _ _ _ _ _ _ Try.underlying92
  go_enter Try.func70, Try.ntmps70
  go_wp2_with ((with_reducible refine gate_op (.call { callee := .builtin .append, args := #[.tmp 5, .tmp 6], argTypes := #[92, 92] }) rfl ?_); refine wpList_append_lies _ rfl (.tmp 5) (.tmp 6) 92 rfl w.heap.size 97 i0 z0 64 64 Try.underlying92 HI0.out HZ0.out HZ1.out HZ2.out HZ3.out (by omega) (.slice (some ⟨w.heap.size, 0, none⟩) 0 0) 0 [] rfl (World.ownsRow_made w #[] 0 (Nat.le_refl _) (by unfold maxLen; omega) rfl) ⟨bl, 0, none⟩ n cap (flat l) rfl HFL.out (HN.out _) HO.out (by omega) (by unfold maxLen; omega) (by omega) (by simp) (w.heap.size + 1) (by simp) ?_; intro g cp w1 hown1 hgrow hat hlt1)
  go_ret
  refine ⟨g, cp, by simp, ?_, ?_⟩
  · rw [Nat.zero_add, List.nil_append] at hown1; exact hown1
  · exact ((Below.refl _ _).alloc (Nat.le_refl _) _).grown hgrow (by simp) (fun j hj => by have : w.heap.size = j := by simpa [Value.ownBlock] using hj
                                                                                           omega)

/-- A disk of which nothing waits, whose row of sectors may have room to spare. -/
structure Loose (B : Nat) (w : World) (p : Nat) (D : DS) (bl bm cap : Nat) (cs : Array Value) : Prop where
  own : w.heap[p]? = some (.cells #[.slice (some ⟨bl, 0, none⟩) D.lasts.length cap, .map (some bm), .int .i64 (-1)] 95 (0, 0))
  lasts : w.heap[bl]? = some (.cells cs 97 (0, 0))
  take : cs.toList.take (D.lasts.length * 64) = flat D.lasts
  map : ∃ clock, w.heap[bm]? = some (.map #[] clock)
  ok : D.Ok
  clean : ∀ i, D.waits i = []
  lo : B ≤ p ∧ B ≤ bl ∧ B ≤ bm
theorem Loose.fix {B : Nat} {w w' : World} {p bl bm cap : Nat} {D : DS} {cs : Array Value} (h : Loose B w p D bl bm cap cs) (hm : ∀ k, B ≤ k → k < w.heap.size → w'.heap[k]? = w.heap[k]?) : Loose B w' p D bl bm cap cs := by
  obtain ⟨clock, hk⟩ := h.map
  exact ⟨(hm p h.lo.1 (lt_of h.own)).trans h.own, (hm bl h.lo.2.1 (lt_of h.lasts)).trans h.lasts, h.take, ⟨clock, (hm bm h.lo.2.2 (lt_of hk)).trans hk⟩, h.ok, h.clean, h.lo⟩
theorem Loose.below {B : Nat} {w w' : World} {p bl bm cap : Nat} {D : DS} {cs : Array Value} (h : Loose B w p D bl bm cap cs) (hb : Below w.heap.size w w') : Loose B w' p D bl bm cap cs := h.fix fun k _ hl => hb.block k hl
theorem loose_read {B : Nat} (p bl bm cap : Nat) (D : DS) (cs : Array Value) (i : Nat) (w : World) (h : Loose B w p D bl bm cap cs) (hi : i < D.lasts.length) :
    Calls Try.prog 31 #[.pointer (some ⟨p, 0, none⟩), .int .i64 i] w fun e w' => e = .returned (.tuple #[.slice (some ⟨w.heap.size, 0, none⟩) 64 64, .int .i64 0]) ∧ w' = w.alloc (.cells (secV (D.read i)).toArray 97) := by
  obtain ⟨clock, hk⟩ := h.map
  exact read_core p bl bm cap clock [] cs D i w h.ok hi (cell_of h.own 0) (cell_of h.own 1) h.lasts h.take hk (.inl ⟨h.clean i, rfl⟩)
theorem loose_waiting {B : Nat} (p bl bm cap : Nat) (D : DS) (cs : Array Value) (w : World) (h : Loose B w p D bl bm cap cs) :
    Calls Try.prog 33 #[.pointer (some ⟨p, 0, none⟩)] w fun e w' => ∃ v, e = .returned v ∧ w'.ownsRow w.heap.size 3 1 v 0 [] ∧ Below w.heap.size w w' := by
  obtain ⟨clock, hk⟩ := h.map
  have hw : D.waiting = [] := by
    unfold DS.waiting
    rw [List.filter_eq_nil_iff]
    intro i _
    simp [h.clean i]
  have hown : w.ownsMap Try.prog 3 RN bm 4096 (.map []) := ⟨_, clock, hk, ⟨by simp, ⟨by simp, by simp, by simp⟩, by simp⟩, by simp, by simp⟩
  have := waiting_core p bm D (.map []) w (cell_of h.own 1) hown (by simp [Maps.size]) (fun ss hs => by
    have : ss = [] := List.Perm.eq_nil hs
    subst this
    rw [hw]; simp)
  rw [hw] at this
  exact this
def Copied (w : World) (D : DS) (e : Ending) (w' : World) : Prop := ∃ pc bl bm cap cs, e = .returned (.pointer (some ⟨pc, 0, none⟩)) ∧ Loose w.heap.size w' pc D bl bm cap cs ∧ Below w.heap.size w w'
set_option maxRecDepth 100000 in
set_option maxHeartbeats 1000000 in
theorem copy_clean (p : Nat) (S : Nat → Prop) (D : DS) (w : World) (h : DiskAt w p S D) (hc : ∀ i, D.waits i = []) :
    Calls Try.prog 41 #[.pointer (some ⟨p, 0, none⟩)] w (Copied w D) := by
  have hok := h.ok
  obtain ⟨_, bl, bm, clock, rs, hm⟩ := h
  have hrs : rs = [] := by
    cases rs with
    | nil => rfl
    | cons r rs =>
      obtain ⟨i, _, _, h3, _⟩ := hm.rows r (by simp)
      exact absurd (hc i) h3
  subst hrs
  have c0 := cell_of hm.own 0
  have c1 := cell_of hm.own 1
  simp only [List.getElem?_toArray, List.getElem?_cons_succ, List.getElem?_cons_zero] at c0 c1
  have hcl := clone_sec bl D.lasts.length D.lasts.length _ D.lasts w rfl hok.some hok.most hok.wide hm.lasts (by rw [List.toList_toArray, ← flat_length hok.wide, List.take_length])
  have HO := Lib.hid hok; have HCC := Lib.hid hc; have HM := Lib.hid hm
  have hmm := @run_makeMap Try.prog
  obtain ⟨N, hN⟩ : ∃ N, N = D.lasts.length := ⟨_, rfl⟩
  have HN := Lib.hid hN
  rw [← hN] at c0 hcl
  have HC := Lib.hid hcl
  clear hok hc hm hcl hN
  have hpl : p < w.heap.size := World.block_lt_of_cell? w _ c0
  go_enter Try.func41, Try.ntmps41
  go_wp2_with fail
  refine HC.out.mono ?_
  rintro e w1 ⟨g, cp, rfl, hown, hb⟩
  have c1' : w1.cell? ⟨p, 1, none⟩ = _ := (hb.cell (p := ⟨p, 1, none⟩) hpl).trans c1
  have HB := Lib.hid hb; have HR := Lib.hid hown
  have hmap1 : w1.heap[bm]? = some (.map #[] clock) := (hb.block bm (lt_of HM.out.map)).trans HM.out.map
  obtain ⟨W3, hW3⟩ : ∃ W3, W3 = (w1.alloc (.map #[] 0)).alloc (.cells #[.slice (some ⟨g, 0, none⟩) N cp, .map (some w1.heap.size), .int .i64 (-1)] 95) := ⟨_, rfl⟩
  have hmap3 : W3.heap[bm]? = some (.map (([] : List (MRow Int)).map (MRow.e (Value.int .i64))).toArray clock) := by
    rw [hW3, Below.heap_alloc _ _ _ (by have := lt_of hmap1; simp; omega), Below.heap_alloc _ _ _ (lt_of hmap1)]; exact hmap1
  have hbm : bm < w1.heap.size := lt_of hmap1
  have hpl1 : p < w1.heap.size := World.block_lt_of_cell? w1 _ c1'
  have hrg := run_range_map (P := Try.prog) (w := W3) Try.underlying93 hmap3
  have hst := Ranging.start (enc := Value.int .i64) (rs := []) hmap3 (by simp) (by simp)
  rw [show W3.heap.size = w1.heap.size + 1 + 1 by rw [hW3]; simp] at hst
  have HST := Lib.hid hst
  have hbu : ∀ W : World, (Instr.build 95 #[(0, .slice (some ⟨g, 0, none⟩) N cp), (1, .map (some w1.heap.size)), (2, .int .i64 (-1))]).run Try.prog W = .ok (.agg #[.slice (some ⟨g, 0, none⟩) N cp, .map (some w1.heap.size), .int .i64 (-1)]) W := fun W => run_build W _ _ _ (by kernel_rfl)
  have HW3 := Lib.hid hW3
  rw [hW3] at hrg
  clear hb hown c0 c1 hmap1 hmap3 hst hW3
  go_wp2_with fail
  go_loopg [21] 0 (fun _ _ wr => Hid (wr = W3.alloc (.mapIter (some bm) clock #[] clock)))
  case atStart => exact Lib.hid (by rw [HW3.out])
  case round =>
    rw [Hid.out hrel]
    clear hrel hrg hbu
    have HR2 := HST.out
    go_wp2_with ((with_reducible refine gate_op (.next (.tmp 20) false) rfl ?_); refine wpList_next_rows rfl (.tmp 20) rfl rfl HST.out (fun _ => ?_) (fun x hx => absurd hx (by simp)))
    go_ret
    have hs := HB.out.size
    have hg : ∃ cur, w1.heap[g]? = some (.cells cur 97 (0, 0)) ∧ cur.toList.take (N * 64) = flat D.lasts ∧ w.heap.size ≤ g := by
      rcases HR.out.2 with ⟨h, _⟩ | ⟨g', cap', cur, hv, h1, h2, h3, h4, h5, h6⟩
      · cases h
      · cases hv; exact ⟨cur, h2, h6, h1⟩
    obtain ⟨cur, hg1, hg2, hg3⟩ := hg
    have hgl := lt_of hg1
    have hb3 : Below w1.heap.size w1 (W3.alloc (.mapIter (some bm) clock #[] clock)) := by
      rw [HW3.out]; exact (((below_alloc1 w1 _).alloc (by simp) _).alloc (by simp; omega) _)
    refine ⟨w1.heap.size + 1, g, w1.heap.size, cp, cur, rfl, ⟨?_, (hb3.block g hgl).trans hg1, by rw [← HN.out]; exact hg2, ⟨0, ?_⟩, HO.out, HCC.out, by omega, hg3, hs⟩, HB.out.trans (hb3.mono hs)⟩
    · rw [HW3.out, Below.heap_alloc _ _ _ (by simp)]
      have := heap_alloc_new (w1.alloc (.map #[] 0)) (.cells #[.slice (some ⟨g, 0, none⟩) N cp, .map (some w1.heap.size), .int .i64 (-1)] 95)
      rw [show (w1.alloc (.map #[] 0)).heap.size = w1.heap.size + 1 by simp] at this
      rw [this, HN.out]
    · rw [HW3.out, Below.heap_alloc _ _ _ (by simp; omega), Below.heap_alloc _ _ _ (by simp)]
      exact heap_alloc_new w1 _
end Go.Proofs.Ythbdlfkdemjpoaa
