/- What the sector package's Flush does. No condition. -/
import Derived.Test.YthbdlfkdemjpoaaS8
import Derived.Test.YthbdlfkdemjpoaaM2
import Derived.Deep.LoopGhost
namespace Go.Proofs.Ythbdlfkdemjpoaa
open Go.RowKit Go.Maps
attribute [local go_sem ↓] Go.wp_at_zero Go.wp_at_succ

/-- The sectors that last while those of a list are still to come. -/
def DS.flushTo (D : DS) (todo : List Int) : List Sec := (List.range D.lasts.length).map fun i : Nat => if (i : Int) ∈ todo then D.lasts.getD i [] else D.read i
def DS.flush (D : DS) : DS := ({ lasts := (List.range D.lasts.length).map D.read, waits := fun _ => [], fuse := D.fuse } : DS).burn
theorem DS.flushTo_length (D : DS) (todo : List Int) : (D.flushTo todo).length = D.lasts.length := by simp [DS.flushTo]
theorem DS.flushTo_wide {D : DS} (h : D.Ok) (todo : List Int) : ∀ s ∈ D.flushTo todo, s.length = 64 := by
  intro s hs
  simp only [DS.flushTo, List.mem_map, List.mem_range] at hs
  obtain ⟨i, hi, rfl⟩ := hs
  split
  · rw [List.getD_eq_getElem?_getD, List.getElem?_eq_getElem hi]
    exact h.wide _ (List.getElem_mem hi)
  · exact DS.read_length h i hi
theorem DS.flushTo_ok {D : DS} (h : D.Ok) (todo : List Int) : ({ D with lasts := D.flushTo todo } : DS).Ok :=
  ⟨by rw [DS.flushTo_length]; exact h.some, by rw [DS.flushTo_length]; exact h.most, D.flushTo_wide h todo, h.wide', fun i hi => by rw [DS.flushTo_length]; exact h.inside i hi, h.fuse⟩
theorem DS.flushTo_all {D : DS} {todo : List Int} (h : ∀ i : Nat, D.waits i ≠ [] → (i : Int) ∈ todo) : D.flushTo todo = D.lasts := by
  apply List.ext_getElem
  · simp [DS.flushTo]
  · intro i h1 h2
    simp only [DS.flushTo, List.getElem_map, List.getElem_range]
    have e1 : D.lasts.getD i [] = D.lasts[i] := by rw [List.getD_eq_getElem?_getD, List.getElem?_eq_getElem h2]; rfl
    split
    · exact e1
    · rename_i hn
      have : D.waits i = [] := Classical.byContradiction fun hc => hn (h i hc)
      unfold DS.read
      rw [this]; exact e1
theorem DS.flushTo_none (D : DS) : D.flushTo [] = (List.range D.lasts.length).map D.read := by simp [DS.flushTo]
theorem DS.flushTo_step {D : DS} {todo todo' : List Int} (i : Nat) (h : ∀ j : Nat, (j : Int) ∈ todo' ↔ (j : Int) ∈ todo ∧ j ≠ i) : D.flushTo todo' = (D.flushTo todo).set i (D.read i) := by
  apply List.ext_getElem
  · simp [DS.flushTo]
  · intro j h1 h2
    have hj : j < D.lasts.length := by simpa [DS.flushTo] using h1
    rw [List.getElem_set]
    simp only [DS.flushTo, List.getElem_map, List.getElem_range]
    by_cases hij : i = j
    · subst hij
      rw [if_pos rfl, if_neg (fun e => ((h i).1 e).2 rfl)]
    · rw [if_neg hij]
      have : ((j : Int) ∈ todo') ↔ ((j : Int) ∈ todo) := by rw [h j]; exact ⟨fun e => e.1, fun e => ⟨e, fun e2 => hij e2.symm⟩⟩
      simp only [this]

set_option maxHeartbeats 400000 in
theorem flush_nil (w : World) : Calls Try.prog 35 #[.pointer none] w fun e w' => e = .returned (.int .i64 1) ∧ w = w' := by
  go_enter Try.func35, Try.ntmps35
  go_wp2_with (go_at_call 53; refine (burnt_nil _).mono ?_; rintro e w' ⟨rfl, rfl⟩)
  go_ret
  exact ⟨rfl, rfl⟩
set_option maxHeartbeats 400000 in
theorem flush_dead (p : Nat) (S : Nat → Prop) (D : DS) (w : World) (h : DiskAt w p S D) (hf : D.fuse = 0) : Calls Try.prog 35 #[.pointer (some ⟨p, 0, none⟩)] w fun e w' => e = .returned (.int .i64 6) ∧ w = w' := by
  have hb := burnt_any p S D w h
  rw [show D.burnt = 6 by simp [DS.burnt, hf]] at hb
  have HB := Lib.hid hb
  clear hb hf
  go_enter Try.func35, Try.ntmps35
  go_wp2_with (go_at_call 53; refine HB.out.mono ?_; rintro e w' ⟨rfl, rfl⟩)
  go_ret
  exact ⟨rfl, rfl⟩

set_option maxRecDepth 100000 in
set_option maxHeartbeats 2000000 in
theorem flush_ok (p : Nat) (S : Nat → Prop) (D : DS) (w : World) (h : DiskAt w p S D) (hf : D.fuse ≠ 0) (hroom : ∀ i, (D.waits i).length ≤ 1000000) :
    Calls Try.prog 35 #[.pointer (some ⟨p, 0, none⟩)] w fun e w' => e = .returned (.int .i64 0) ∧ DiskAt w' p S D.flush ∧ Kept S w w' := by
  have hb := burnt_any p S D w h
  rw [show D.burnt = 0 by simp [DS.burnt, hf]] at hb
  have HB := Lib.hid hb
  have hok := h.ok
  have hT := h.tight
  obtain ⟨S0, hS0⟩ : ∃ S0 : Nat → Prop, S0 = fun k => S k ∧ k < w.heap.size := ⟨_, rfl⟩
  rw [← hS0] at hT
  obtain ⟨_, bl, bm, clock, rs, hm⟩ := hT
  have c1 := cell_of hm.own 1
  simp only [List.getElem?_toArray, List.getElem?_cons_succ, List.getElem?_cons_zero] at c1
  have hrg := run_range_map (P := Try.prog) (w := w) Try.underlying93 hm.map
  have hst := Ranging.start hm.map hm.since hm.born
  have hall : D.flushTo (rs.map (·.k)) = D.lasts := DS.flushTo_all fun i hi => by
    rcases hm.keys i with ⟨h, _⟩ | ⟨_, g, cap, hf, _⟩
    · exact absurd h hi
    · obtain ⟨r, hr, hk, _⟩ := mfind_some hf
      exact hk ▸ List.mem_map_of_mem hr
  have hmF : DiskMem (w.alloc (.mapIter (some bm) clock #[] clock)) p S0 { D with lasts := D.flushTo (rs.map (·.k)) } bl bm clock rs := by
    rw [hall]
    exact hm.fix fun k _ hk => Below.heap_alloc _ _ _ hk
  have hK0 : Kept S0 w (w.alloc (.mapIter (some bm) clock #[] clock)) := (Kept.refl _ _).alloc _
  have hms := hok.most
  have HS0 := Lib.hid hS0; have HM0 := Lib.hid hm; have HST := Lib.hid hst; have HMF := Lib.hid hmF; have HK0 := Lib.hid hK0; have HO := Lib.hid hok; have HROOM := Lib.hid hroom
  clear hb hf hok hS0 hm hst hall hmF hK0 hroom
  go_enter Try.func35, Try.ntmps35
  go_wp2_with (go_at_call 53; refine HB.out.mono ?_; rintro e w' ⟨rfl, rfl⟩)
  go_loopg [16] rs.length (fun gk _ wr => ∃ left : List (MRow Int), Hid (left.length = gk) ∧ Hid (Ranging (Value.int .i64) wr bm w.heap.size clock rs left) ∧ Hid (DiskMem wr p S0 { D with lasts := D.flushTo (left.map (·.k)) } bl bm clock rs) ∧ Hid (Kept S0 w wr))
  case atStart => exact ⟨rs, rfl, HST.out, HMF.out, HK0.out⟩
  case round =>
    obtain ⟨left, HL, HR, HM, HK⟩ := hrel
    clear hrg HST HMF HK0
    by_cases hne : left = []
    · subst hne
      obtain ⟨bm', hbm'⟩ : ∃ x, x = bm := ⟨_, rfl⟩
      have c1 := cell_of HM.out.own 1
      have f2 := frozen_of HM.out.clear.own 2
      simp only [List.getElem?_toArray, List.getElem?_cons_succ, List.getElem?_cons_zero] at c1
      have hcl := run_clear_map HM.out.map
      have hfl : D.flushTo (([] : List (MRow Int)).map (·.k)) = (List.range D.lasts.length).map D.read := DS.flushTo_none D
      have hDc : DiskAt (setObj wr bm (.map #[] clock)) p S0 { lasts := (List.range D.lasts.length).map D.read, waits := fun _ => [], fuse := D.fuse } := by
        have := DS.clear_ok (D.flushTo_ok HO.out (([] : List (MRow Int)).map (·.k)))
        rw [← hfl]
        exact ⟨this, _, _, _, _, HM.out.clear⟩
      have HD := Lib.hid hDc
      have HKC := Lib.hid (HK.out.setObj bm (.map #[] clock) (fun _ => HM.out.sm))
      clear hDc hfl hbm' bm' f2
      go_wp2_with (first | ((with_reducible refine gate_op (.next (.tmp 15) false) rfl ?_); refine wpList_next_rows rfl (.tmp 15) rfl rfl HR.out (fun _ => ?_) (fun x hx => absurd hx (by simp))) | (go_at_call 54; refine (burns_any p S0 _ _ HD.out).mono ?_; rintro e w' ⟨rfl, hd, hk⟩))
      go_ret
      refine ⟨rfl, hd.mono (fun k hk => by rw [HS0.out] at hk; exact hk.1), ?_⟩
      exact (HKC.out.trans hk).mono (fun k _ hs => by rw [HS0.out] at hs; exact hs.1)
    · go_wp2_with ((with_reducible refine gate_op (.next (.tmp 15) false) rfl ?_); refine wpList_next_rows rfl (.tmp 15) rfl rfl HR.out (fun e => absurd e hne) ?_; intro x hx n seen hrg hen)
      have hne' : HR.out.sub x hx = HR.out.sub x hx := rfl
      obtain ⟨i, hik, hil, hwi, g, n2, gcap, hv, hSg, hgb⟩ := HM.out.rows x (HR.out.sub x hx)
      have hfx := mfind_of_mem HM.out.nodup (HR.out.sub x hx)
      obtain ⟨l, hl⟩ : ∃ l, l = D.waits i := ⟨_, rfl⟩
      obtain ⟨gc, how⟩ : ∃ gc, n2 = l.length ∧ gc = gcap ∧ wr.ownsRow 0 97 64 (.slice (some ⟨g, 0, none⟩) l.length gcap) l.length (flat l) := by
        rcases HM.out.keys i with ⟨h0, _⟩ | ⟨_, g', gcap', hf, how⟩
        · exact absurd h0 hwi
        · rw [← hik, hfx, hv] at hf
          simp only [Option.some.injEq, Value.slice.injEq, Addr.mk.injEq, and_true] at hf
          obtain ⟨rfl, rfl, rfl⟩ := hf
          exact ⟨gcap, by rw [hl], rfl, by rw [hl]; exact how⟩
      obtain ⟨rfl, _, how⟩ := how
      have hll : 0 < l.length := by rw [hl]; exact List.length_pos_iff.2 hwi
      have hlm : l.length ≤ 1000000 := by rw [hl]; exact HROOM.out i
      have hw64 : ∀ s ∈ l, s.length = 64 := fun s hs => HO.out.wide' i s (hl ▸ hs)
      have hrd : D.read i = l[l.length - 1] := by
        unfold DS.read
        rw [← hl, List.getLast?_eq_getElem?, List.getElem?_eq_getElem (by omega)]; rfl
      obtain ⟨cur, hcur, hct⟩ : ∃ cur, wr.heap[g]? = some (.cells cur 97 (0, 0)) ∧ cur.toList.take (l.length * 64) = flat l := by
        rcases how.2 with ⟨h, _⟩ | ⟨g', cap', cur, hv, _, h2, h3, h4, h5, h6⟩
        · cases h
        · cases hv; exact ⟨cur, h2, h6⟩
      obtain ⟨W1, hW1⟩ : ∃ W1, W1 = setObj (wr.drewN n) w.heap.size (.mapIter (some bm) clock (seen.push x.born) clock) := ⟨_, rfl⟩
      rw [← hW1] at hrg hen ⊢
      have hS0lt : ∀ k, S0 k → k ≠ w.heap.size := fun k hk => by rw [HS0.out] at hk; omega
      have hm1 : DiskMem W1 p S0 { D with lasts := D.flushTo (left.map (·.k)) } bl bm clock rs := by
        rw [hW1]; exact HM.out.fix fun k hk _ => heap_setObj_ne _ _ _ _ (hS0lt k hk)
      have hcur1 : W1.heap[g]? = some (.cells cur 97 (0, 0)) := by
        rw [hW1, heap_setObj_ne _ _ _ _ (hS0lt g hSg)]; exact hcur
      have hk1 : Kept S0 w W1 := by rw [hW1]; exact (HK.out.drewN n).setObj _ _ (fun h => absurd h (by omega))
      obtain ⟨s, hs⟩ : ∃ s, s = D.read i := ⟨_, rfl⟩
      have hsl : s.length = 64 := by rw [hs]; exact DS.read_length HO.out i (by simpa [DS.flushTo_length] using hil)
      have hrgs := range_flat hcur1 hw64 hct (l.length - 1) (by omega)
      rw [← hrd, ← hs] at hrgs
      have hmok := HM.out
      obtain ⟨_, hth⟩ := hm1.last (D.flushTo_ok HO.out _) i hil s hsl
      obtain ⟨hml, _⟩ := (hm1.fix (w' := W1.drew) (fun _ _ _ => rfl)).last (D.flushTo_ok HO.out _) i hil s hsl
      have hstep : D.flushTo ((drop1 left x).map (·.k)) = (D.flushTo (left.map (·.k))).set i s := by
        rw [hs]
        refine DS.flushTo_step i fun j => ?_
        simp only [List.mem_map]
        constructor
        · rintro ⟨y, hy, hyk⟩
          obtain ⟨h1, h2⟩ := (HR.out.mem_drop1 hx y).1 hy
          refine ⟨⟨y, h1, hyk⟩, fun e => h2 ?_⟩
          have hyx : y.k = x.k := by rw [hyk, hik, e]
          have h3 := List.pairwise_iff_getElem.1 HM.out.nodup
          obtain ⟨a, ha, ea⟩ := List.getElem_of_mem (HR.out.sub y h1)
          obtain ⟨b, hb, eb⟩ := List.getElem_of_mem (HR.out.sub x hx)
          have hab : a = b := by
            rcases Nat.lt_trichotomy a b with h | h | h
            · exact (h3 a b (by simpa using ha) (by simpa using hb) h (by simp only [List.getElem_map]; rw [ea, eb, hyx])).elim
            · exact h
            · exact (h3 b a (by simpa using hb) (by simpa using ha) h (by simp only [List.getElem_map]; rw [ea, eb, hyx])).elim
          subst hab
          rw [← ea, ← eb]
        · rintro ⟨⟨y, hy, hyk⟩, hji⟩
          refine ⟨y, (HR.out.mem_drop1 hx y).2 ⟨hy, fun e => hji ?_⟩, hyk⟩
          rw [e, hik] at hyk
          omega
      rw [← hstep] at hml
      have hlast := drop1_length hx
      have c0 := cell_of hm1.own 0
      simp only [List.getElem?_toArray, List.getElem?_cons_zero, DS.flushTo_length] at c0
      have hpb : p ≠ bl := fun e => by have a := hm1.lasts; rw [← e, hm1.own] at a; injection a with a; injection a with _ a; exact absurd a (by decide)
      have hks : Hid (∀ W : World, (∀ k, k ≠ bl → W.heap[k]? = W1.heap[k]?) → W.there bl (i * 64) 64 → W.cell? ⟨p, 0, none⟩ = some (.slice (some ⟨bl, 0, none⟩) D.lasts.length D.lasts.length) ∧ W.rangeAt g ((l.length - 1) * 64) (secV s) ∧ W.there bl (i * 64) 64) := by
        intro W hW hT
        refine ⟨?_, ?_, hT⟩
        · rw [World.cell?_of_block (w := W1) (hW p hpb)]; exact c0
        · intro j u hu
          rw [World.cell?_of_block (w := W1) (hW g hgb)]; exact hrgs j u hu
      have hrgn : Ranging (Value.int .i64) (W1.drew.setCells bl (i * 64) (secV s)) bm w.heap.size clock rs (drop1 left x) := by
        have hbb : bm ≠ bl := fun e => by have a := hm1.lasts; rw [← e, hm1.map] at a; cases a
        exact hrg.fix (heap_setCells _ _ _ _ _ hbb) (heap_setCells _ _ _ _ _ (fun e => hS0lt bl hm1.sl e.symm))
      have hu := Try.underlying97
      have hisz : (Try.prog.info? 97).map (·.size) = some (secV s).length := by rw [secV_length, hsl]; kernel_rfl
      have hsl64 : (secV s).length = 64 := by rw [secV_length, hsl]
      have h1c : ∀ v ∈ secV s, v.oneCell' = true := fun v hv => secV_one hv
      have q3 : IntKind.i64.wrap ((l.length : Int) - 1) = (l.length : Int) - 1 := IntWalk.i64_in _ (by omega)
      have q4 : ((l.length : Int) - 1).toNat = l.length - 1 := by omega
      have q5 : (0 : Int) ≤ (l.length : Int) - 1 := by omega
      have q6 : (l.length : Int) - 1 < (l.length : Int) := by omega
      have q7 : (0 : Int) ≤ (i : Int) := by omega
      have hil2 : i < D.lasts.length := by simpa [DS.flushTo_length] using hil
      have q8 : (i : Int) < (D.lasts.length : Int) := by omega
      have q10 : (1 : Int) ≤ (l.length : Int) := by omega
      have hmlok : ({ D with lasts := D.flushTo ((drop1 left x).map (·.k)) } : DS).Ok := D.flushTo_ok HO.out _
      have HML := Lib.hid hml; have HTH := Lib.hid hth; have HRGN := Lib.hid hrgn; have HK1 := Lib.hid hk1; have HLAST := Lib.hid hlast; have HSL2 := Lib.hid hm1.sl
      clear hml hth hrgn hk1 hlast hmlok hstep hmok hm1 hcur1 hcur hct hw64 hrd hfx how hrg hen hW1 hS0lt hne' hs hsl hrgs hpb c0
      obtain ⟨N, hN⟩ : ∃ N, l.length = N := ⟨_, rfl⟩
      rw [hN] at hv q3 q4 q5 q6 q10 hll hlm hks
      have HN := Lib.hid hN
      clear hN
      obtain ⟨xk, xv, xb⟩ := x
      simp only at hik hv
      subst hik
      subst hv
      go_region_held3 (fun w' => w'.cell? ⟨p, 0, none⟩ = some (.slice (some ⟨bl, 0, none⟩) D.lasts.length D.lasts.length) ∧ w'.rangeAt g ((N - 1) * 64) (secV s) ∧ w'.there bl (i * 64) 64) (first | exact hks.out _ (fun k _ => rfl) ((World.there_drew _ _ _ _).2 HTH.out) | exact hks.out _ (fun k hk => heap_setCells _ _ _ _ k hk) (World.there_setCells ((World.there_drew _ _ _ _).2 HTH.out) _ _ _)) (fail)
      go_wp2_with fail
      go_roundg (drop1 left ⟨(i : Int), .slice (some ⟨g, 0, none⟩) N gcap, xb⟩).length
      case measure => have := HLAST.out; have := HL.out; omega
      case rel => exact ⟨_, rfl, HRGN.out, HML.out, HK1.out.drew.setCells _ _ _ (fun _ => HSL2.out)⟩
end Go.Proofs.Ythbdlfkdemjpoaa
