/- What super.Pack makes. No condition. -/
import Derived.Test.YthbdlfkdemjpoaaB3
import Derived.Deep.RegionHeld3
import Derived.Laws.CopyOwn
namespace Go.Proofs.Ythbdlfkdemjpoaa
open Go.RowKit Go.Maps
attribute [local go_sem ↓] Go.wp_at_zero Go.wp_at_succ

theorem bytes_sub {w : World} {b o : Nat} {l : Row} (h : Bytes w (some ⟨b, o, none⟩) l) (i m : Nat) : Bytes w (some ⟨b, o + i, none⟩) ((l.drop i).take m) := by
  rcases h with rfl | ⟨b', o', e, hl, hc⟩
  · left; simp
  · cases e
    refine .inr ⟨b, o + i, rfl, hl, fun j v hv => ?_⟩
    have hj : j < ((l.drop i).take m).length := by have := (List.getElem?_eq_some_iff.1 hv).1; simpa [secV] using this
    rw [List.length_take, List.length_drop] at hj
    rw [Nat.add_assoc]
    refine hc (i + j) v ?_
    rw [← hv]
    simp only [secV, List.getElem?_map]
    rw [List.getElem?_take, if_pos (by omega), List.getElem?_drop]
def Packed (w : World) (ls : List Row) (e : Ending) (w' : World) : Prop := ∃ v gs cs, e = .returned v ∧ Rows w.heap.size w' v ls gs cs ∧ Below w.heap.size w w'
set_option maxHeartbeats 1000000 in
theorem pack_bad (n : Int) (A : Option Addr) (img : Row) (c : Nat) (w : World) (h : packBad n img) (hl : img.length ≤ 1000000) :
    Calls Try.prog 18 #[.int .i64 n, .slice A img.length c] w fun e w' => e = .returned (.slice none 0 0) ∧ w = w' := by
  by_cases h1 : n < 1
  · have q1 : decide (n < 1) = true := decide_eq_true h1
    go_enter Try.func18, Try.ntmps18
    go_wp2_with fail
    go_ret
    exact ⟨rfl, rfl⟩
  · have q1 : decide (n < 1) = false := decide_eq_false h1
    by_cases h2 : 1125899906842624 < n
    · have q2 : decide (1125899906842624 < n) = true := decide_eq_true h2
      go_enter Try.func18, Try.ntmps18
      go_wp2_with fail
      go_ret
      exact ⟨rfl, rfl⟩
    · have q2 : decide (1125899906842624 < n) = false := decide_eq_false h2
      have h3 : 814 < img.length := by rcases h with h | h | h <;> omega
      have q3 : decide ((814 : Int) < (img.length : Int)) = true := decide_eq_true (by omega)
      go_enter Try.func18, Try.ntmps18
      go_wp2_with fail
      go_ret
      exact ⟨rfl, rfl⟩
theorem zerosC_size (m : Nat) : (zerosC m).size = m := by simp [zerosC, secV_length]
theorem zerosC_len (m : Nat) : (zerosC m).toList.length = m := by rw [Array.length_toList, zerosC_size]
theorem splice_pad (m : Nat) (l : Row) : (splice (zerosC m).toList 0 (secV l)).toArray = (secV (zpad m l)).toArray := by
  have e : (zerosC m).toList = secV (List.replicate m 0) := rfl
  rw [e]
  congr 1
  unfold splice zpad secV
  simp [List.drop_replicate]
theorem slice_lh (W : World) (b o len cap lo hi m : Nat) (h1 : lo ≤ hi) (h2 : hi ≤ cap) (h3 : lo < cap) (hm : hi - lo = m) (lz hz : Int) (hlz : lz = lo) (hhz : hz = hi) :
    (Instr.slice 22 (.slice (some ⟨b, o, none⟩) len cap) (some (.int .i64 lz)) (some (.int .i64 hz)) none).run Try.prog W = .ok (.slice (some ⟨b, o + lo, none⟩) m (cap - lo)) W := by
  subst hlz hhz hm
  have he : Try.prog.underlying 22 = some (.slice (Try.prog.elem 22)) := by kernel_rfl
  have hs : ∀ W, (sizeOf (Try.prog.elem 22)).run Try.prog W = .ok 1 W := fun W => by
    have e : Try.prog.elem 22 = 5 := by kernel_rfl
    rw [e]; exact Try.sizeOf5 W
  rw [run_slice_lh W 22 (some ⟨b, o, none⟩) len cap he .i64 .i64 lo hi (by omega) (by omega) (by omega), hs]
  simp only [Result.andThen, sliced, Int.toNat_natCast]
  rw [if_neg (by omega), Option.map_some, add0, Nat.mul_one]
theorem al3_new (w : World) (o1 o2 o3 : Obj) : (((w.alloc o1).alloc o2).alloc o3).drew.heap[w.heap.size + 1 + 1]? = some o3 := by
  show (((w.alloc o1).alloc o2).alloc o3).heap[w.heap.size + 1 + 1]? = some o3
  have := heap_alloc_new ((w.alloc o1).alloc o2) o3
  rwa [show ((w.alloc o1).alloc o2).heap.size = w.heap.size + 1 + 1 by simp] at this
theorem al3_mid (w : World) (o1 o2 o3 : Obj) : (((w.alloc o1).alloc o2).alloc o3).drew.heap[w.heap.size + 1]? = some o2 := by
  show (((w.alloc o1).alloc o2).alloc o3).heap[w.heap.size + 1]? = some o2
  rw [Below.heap_alloc _ _ _ (by simp)]
  have := heap_alloc_new (w.alloc o1) o2
  rwa [show (w.alloc o1).heap.size = w.heap.size + 1 by simp] at this
theorem al3_old (w : World) (o1 o2 o3 : Obj) : (((w.alloc o1).alloc o2).alloc o3).drew.heap[w.heap.size]? = some o1 := by
  show (((w.alloc o1).alloc o2).alloc o3).heap[w.heap.size]? = some o1
  rw [Below.heap_alloc _ _ _ (by simp; omega), Below.heap_alloc _ _ _ (by simp)]
  exact heap_alloc_new w o1
theorem al3_belowN (w : World) (o1 o2 o3 : Obj) : Below w.heap.size w (((w.alloc o1).alloc o2).alloc o3) := ((below_alloc1 w _).alloc (by simp) _).alloc (by simp; omega) _
theorem al3_below (w : World) (o1 o2 o3 : Obj) : Below w.heap.size w (((w.alloc o1).alloc o2).alloc o3).drew := (((below_alloc1 w _).alloc (by simp) _).alloc (by simp; omega) _).drew
theorem bytes_blk {w : World} {g : Nat} {l : Row} {t : TypeId} (h : w.heap[g]? = some (.cells (secV l).toArray t (0, 0))) : Bytes w (some ⟨g, 0, none⟩) l :=
  .inr ⟨g, 0, rfl, lt_of h, fun j v hv => by rw [Nat.zero_add, cell_of h, List.getElem?_toArray]; exact hv⟩
theorem bytes_one {w : World} {g : Nat} {z : Int} {t : TypeId} (h : w.heap[g]? = some (.cells #[.int .u8 z] t (0, 0))) (k : Nat) (hz : z = (k : Int) % 256) : Bytes w (some ⟨g, 0, none⟩) [UInt8.ofNat k] := by
  refine bytes_blk (t := t) ?_
  rw [h, hz, ← byte_cast]; rfl
theorem head_join (wr V : World) (b x y W0 k n : Nat) (img : Row) (z : Int) (hV : Below wr.heap.size wr V) (hrow : V.heap[b]? = some (.cells #[.slice (some ⟨x, 0, none⟩) 8 8, .slice (some ⟨y, 0, none⟩) 1 1, .slice (some ⟨W0, 51 * k, none⟩) 51 (816 - 51 * k)] 22 (0, 0)))
    (hx : V.heap[x]? = some (.cells (secV (leB n 8)).toArray 5 (0, 0))) (hy : V.heap[y]? = some (.cells #[.int .u8 z] 5 (0, 0))) (hz : z = (k : Int) % 256) (hall : Bytes wr (some ⟨W0, 0, none⟩) (packAll img)) (hk : k < 16) (himg : img.length ≤ 814) :
    Calls Try.prog 47 #[.slice (some ⟨b, 0, none⟩) 3 3] V (Joined wr (packHead n img k)) := by
  have h3 := bytes_sub (hall.below hV) (51 * k) 51
  rw [Nat.zero_add] at h3
  have hl3 : (((packAll img).drop (51 * k)).take 51).length = 51 := by rw [List.length_take, List.length_drop, packAll_length himg]; omega
  have hrow' : V.heap[b]? = some (.cells #[.slice (some ⟨x, 0, none⟩) (leB n 8).length 8, .slice (some ⟨y, 0, none⟩) [UInt8.ofNat k].length 1, .slice (some ⟨W0, 51 * k, none⟩) (((packAll img).drop (51 * k)).take 51).length (816 - 51 * k)] 22 (0, 0)) := by
    rw [leB_length, hl3]; exact hrow
  refine (join3 b 3 _ _ _ (leB n 8) [UInt8.ofNat k] _ 8 1 (816 - 51 * k) 22 V hrow' (bytes_blk hx) (bytes_one hy k hz) h3 (by omega) (by rw [leB_length, hl3]; simp)).mono ?_
  rintro e w' ⟨g, c, he, hf, hb⟩
  exact ⟨g, c, he, hf.mono hV.size, hV.trans (hb.mono hV.size)⟩
set_option maxRecDepth 100000 in
set_option maxHeartbeats 4000000 in
theorem pack_ok (n : Nat) (A : Option Addr) (img : Row) (c : Nat) (w : World) (hA : Bytes w A img) (h1 : 1 ≤ n) (h2 : n ≤ 1125899906842624) (hl : img.length ≤ 814) :
    Calls Try.prog 18 #[.int .i64 n, .slice A img.length c] w (Packed w (packK n img 16)) := by
  have q1 : decide ((n : Int) < 1) = false := decide_eq_false (by omega)
  have q2 : decide (1125899906842624 < (n : Int)) = false := decide_eq_false (by omega)
  have q3 : decide ((814 : Int) < (img.length : Int)) = false := decide_eq_false (by omega)
  have km : (Instr.makeSlice 22 (.int .i64 816) (.int .i64 816)).run Try.prog w = .ok (.slice (some ⟨w.heap.size, 0, none⟩) 816 816) (w.alloc (.cells (zerosC 816) 5)) := make_bytesN w 816 (by omega)
  have HA := Lib.hid hA
  clear hA
  go_enter Try.func18, Try.ntmps18
  go_wp2_with fail
  clear km
  refine (little_any img.length 2 _ (by omega)).mono ?_
  rintro e w1 ⟨rfl, rfl⟩
  go_wp2_with fail
  obtain ⟨V, hV⟩ : ∃ V, V = ((w.alloc (.cells (zerosC 816) 5)).alloc (.cells (secV (leB img.length 2)).toArray 5)).alloc (.cells #[.slice (some ⟨w.heap.size + 1, 0, none⟩) 2 2, .slice A img.length c] 22) := ⟨_, rfl⟩
  rw [← hV]
  have hb0 : Below w.heap.size w V := by rw [hV]; exact (((below_alloc1 w _).alloc (by simp) _).alloc (by simp; omega) _)
  have hz : V.heap[w.heap.size]? = some (.cells (zerosC 816) 5 (0, 0)) := by
    rw [hV, Below.heap_alloc _ _ _ (by simp; omega), Below.heap_alloc _ _ _ (by simp)]; exact heap_alloc_new w _
  have hle : V.heap[w.heap.size + 1]? = some (.cells (secV (leB img.length 2)).toArray 5 (0, 0)) := by
    rw [hV, Below.heap_alloc _ _ _ (by simp)]
    have := heap_alloc_new (w.alloc (.cells (zerosC 816) 5)) (.cells (secV (leB img.length 2)).toArray 5)
    simpa using this
  have hbx : V.heap[w.heap.size + 2]? = some (.cells #[.slice (some ⟨w.heap.size + 1, 0, none⟩) 2 2, .slice A img.length c] 22 (0, 0)) := by
    rw [hV]
    have := heap_alloc_new ((w.alloc (.cells (zerosC 816) 5)).alloc (.cells (secV (leB img.length 2)).toArray 5)) (.cells #[.slice (some ⟨w.heap.size + 1, 0, none⟩) 2 2, .slice A img.length c] 22)
    simpa using this
  have hj := join2 (w.heap.size + 1 + 1) 2 (some ⟨w.heap.size + 1, 0, none⟩) A (leB img.length 2) img 2 c 22 V (by rw [leB_length]; exact hbx) (.inr ⟨_, 0, rfl, lt_of hle, fun j v hv => by rw [Nat.zero_add, cell_of hle, List.getElem?_toArray]; exact hv⟩) (HA.out.below hb0) (by omega) (by rw [leB_length]; omega)
  have HJ := Lib.hid hj; have HZ := Lib.hid hz; have HB0 := Lib.hid hb0
  clear hj hbx hle hz hb0 hV
  refine HJ.out.mono ?_
  rintro e w2 ⟨g, cj, rfl, hf, hb⟩
  obtain ⟨JL, hJL⟩ : ∃ JL, JL = leB img.length 2 ++ img := ⟨_, rfl⟩
  have hjl : JL.length = img.length + 2 := by rw [hJL, List.length_append, leB_length]; omega
  have HJL := Lib.hid hJL; have HJN := Lib.hid hjl
  rw [← hJL] at hf ⊢
  have HF := Lib.hid hf; have HB2 := Lib.hid (HB0.out.trans (hb.mono HB0.out.size))
  have HZ2 : Hid (w2.heap[w.heap.size]? = some (.cells (zerosC 816).toList.toArray 5 (0, 0))) := Lib.hid ((hb.block _ (lt_of HZ.out)).trans HZ.out)
  obtain ⟨W0, hW0⟩ : ∃ W0, W0 = w.heap.size := ⟨_, rfl⟩
  rw [← hW0] at HZ2
  have HW0 := Lib.hid hW0
  have hW0lt : W0 < w2.heap.size := lt_of HZ2.out
  clear hf hb hJL hjl HJ HZ HB0
  have hcopy : Hid (∀ j v, (secV JL)[j]? = some v → w2.cell? ((⟨g, 0, none⟩ : Addr).add j) = some v) := Lib.hid fun j v hv => by
    rcases HF.out.bytes with h | ⟨b, o, e, hbl, hc⟩
    · rw [h] at hv; simp [secV] at hv
    · cases e; rw [add0]; exact hc j v hv
  have hsz : (Try.prog.info? 5).map (·.size) = some 1 := by kernel_rfl
  have HSZ := Lib.hid hsz
  clear hsz
  have HC1 : Hid ((secV JL).length = Nat.min JL.length 816) := Lib.hid (by rw [secV_length, HJN.out]; exact (Nat.min_eq_left (by omega)).symm)
  have HC3 : Hid (0 + (secV JL).length ≤ (zerosC 816).toList.length) := Lib.hid (by rw [secV_length, HJN.out, zerosC_len]; omega)
  rw [← hW0]
  clear hW0
  go_wp2_with (with_reducible refine wpList_copy_splice rfl (.tmp 21) (.tmp 27) 22 22 rfl 5 Try.underlying22 HSZ.out (some ⟨W0, 0, none⟩) (some ⟨g, 0, none⟩) 816 816 JL.length cj rfl rfl W0 0 (zerosC 816).toList 5 HZ2.out (secV JL) HC1.out (fun _ => ⟨rfl, _, rfl, hcopy.out⟩) HC3.out (fun v hv => secV_one hv) W0 w2 (Below.refl _ _) (Nat.le_refl _) ?_; intro w3 hsp hb3)
  have HPA : Hid (Bytes w3 (some ⟨W0, 0, none⟩) (packAll img)) := Lib.hid (by
    have h := hsp.out
    rw [splice_pad, HJL.out] at h
    exact .inr ⟨W0, 0, rfl, lt_of h, fun j v hv => by rw [Nat.zero_add, cell_of h, List.getElem?_toArray]; exact hv⟩)
  have HB3 : Hid (Below w.heap.size w w3) := Lib.hid (HB2.out.trans (by rw [← HW0.out]; exact hb3))
  have HW3 : Hid (W0 < w3.heap.size) := Lib.hid (Nat.lt_of_lt_of_le hW0lt hb3.size)
  clear hsp hb3 hW0lt HF HB2 HZ2 hcopy HSZ HC1 HC3
  obtain ⟨i0, hi0, z0, hz0, hz1, hz2, hz3⟩ := infoBRow_parts
  have HI0 := Lib.hid hi0; have HZ0 := Lib.hid hz0; have HZ1 := Lib.hid hz1; have HZ2 := Lib.hid hz2; have HZ3 : Hid (z0.cells.size = 1) := Lib.hid (by rw [hz3]; rfl)
  clear hi0 hz0 hz1 hz2 hz3
  go_loopw [6, 29] (fun v i wr => ∃ (k : Nat) (v0 : Value) (gs cs : Nat → Nat), k ≤ 16 ∧ i = .int .i64 k ∧ v0 = v ∧ Hid (Rows w3.heap.size wr v0 (packK n img k) gs cs) ∧ Hid (Below w3.heap.size w3 wr)) (fun _ i _ => 200 - (intOf i).toNat)
  case atStart => exact ⟨0, _, fun _ => 0, fun _ => 0, by omega, rfl, rfl, Lib.hid (Rows.nil _ _ _ _), Lib.hid (Below.refl _ _)⟩
  case round =>
    obtain ⟨k, v, gs, cs, hk, rfl, rfl, HR, HB⟩ := hrel
    by_cases hlt : k < 16
    · have p1 : decide ((k : Int) < 16) = true := decide_eq_true (by omega)
      have kw1 : IntKind.i64.wrap ((k : Int) * 51) = (k : Int) * 51 := IntWalk.i64_in _ (by omega)
      have kw2 : IntKind.i64.wrap ((k : Int) + 1) = (k : Int) + 1 := IntWalk.i64_in _ (by omega)
      have kw3 : IntKind.i64.wrap (((k : Int) + 1) * 51) = ((k : Int) + 1) * 51 := IntWalk.i64_in _ (by omega)
      have ksl : ∀ W, (Instr.slice 22 (.slice (some ⟨W0, 0, none⟩) 816 816) (some (.int .i64 ((k : Int) * 51))) (some (.int .i64 (((k : Int) + 1) * 51))) none).run Try.prog W = .ok (.slice (some ⟨W0, 51 * k, none⟩) 51 (816 - 51 * k)) W := fun W => by
        have := slice_lh W W0 0 816 816 (51 * k) (51 * k + 51) 51 (by omega) (by omega) (by omega) (by omega) ((k : Int) * 51) (((k : Int) + 1) * 51) (by omega) (by omega)
        rwa [Nat.zero_add] at this
      have b1 : (0 : Int) ≤ (k : Int) * 51 := by omega
      have HZZ : Hid (IntKind.u8.wrap (k : Int) = (k : Int) % 256) := Lib.hid (IntKind.wrap_u8 _)
      have b2 : (k : Int) * 51 ≤ ((k : Int) + 1) * 51 := by omega
      have b3 : ((k : Int) + 1) * 51 ≤ 816 := by omega
      go_wp2_with fail
      go_region_held3 (fun w' => wr.heap.size ≤ w'.heap.size) (first | exact HB1.out.size | (simp; done) | (simp; omega))
        (first
          | (go_at_call 48; refine (little_any n 8 _ (by omega)).mono ?_; rintro e w' ⟨rfl, rfl⟩)
          | (go_at_call 47; (first | ((with_reducible refine (head_join wr _ (wr.heap.size + 1 + 1) wr.heap.size (wr.heap.size + 1) W0 k n img (IntKind.u8.wrap ↑k) (al3_below wr _ _ _) (al3_new wr _ _ _) (al3_old wr _ _ _) (al3_mid wr _ _ _) HZZ.out (HPA.out.below HB.out) hlt hl).mono ?_); rintro e w1 ⟨g1, c1, rfl, hf1, hb1⟩) | ((with_reducible refine (head_join wr _ (wr.heap.size + 1 + 1) (wr.heap.size + 1) wr.heap.size W0 k n img (IntKind.u8.wrap ↑k) (al3_below wr _ _ _) (al3_new wr _ _ _) (al3_mid wr _ _ _) (al3_old wr _ _ _) HZZ.out (HPA.out.below HB.out) hlt hl).mono ?_); rintro e w1 ⟨g1, c1, rfl, hf1, hb1⟩)); have HF1 := Lib.hid hf1; have HB1 := Lib.hid hb1; clear hf1 hb1))
      all_goals
        clear ksl kw1 kw2 kw3 b1 b2 b3
        obtain ⟨hd, hhd⟩ : ∃ hd, hd = packHead n img k := ⟨_, rfl⟩
        have HHL : Hid (hd.length = 60) := Lib.hid (by rw [hhd]; exact packHead_length hl hlt)
        have HHD := Lib.hid hhd
        rw [← hhd] at HF1 ⊢
        obtain ⟨s, hs⟩ : ∃ s, s = crc hd := ⟨_, rfl⟩
        have hs2 : s < 4294967296 := by rw [hs]; exact crc_lt _
        have HS := Lib.hid hs
        clear hhd hs
        go_wp2_with fail
        refine (sum_one w1.heap.size 0 1 (some ⟨g1, 0, none⟩) hd c1 _ (by rw [cell_of (heap_alloc_new w1 _)]; rfl) (HF1.out.bytes.below (below_alloc1 w1 _)) (by rw [HHL.out]; omega)).mono ?_
        rintro e w2 ⟨rfl, rfl⟩
        rw [← HS.out]
        go_wp2_with fail
        refine (little_any s 4 _ (by omega)).mono ?_
        rintro e w4 ⟨rfl, rfl⟩
        go_wp2_with fail
        have hj := join2 (w1.heap.size + 1 + 1) 2 (some ⟨g1, 0, none⟩) (some ⟨w1.heap.size + 1, 0, none⟩) hd (leB s 4) c1 4 22 (((w1.alloc (.cells #[.slice (some ⟨g1, 0, none⟩) hd.length c1] 22)).alloc (.cells (secV (leB s 4)).toArray 5)).alloc (.cells #[.slice (some ⟨g1, 0, none⟩) hd.length c1, .slice (some ⟨w1.heap.size + 1, 0, none⟩) 4 4] 22)) (by rw [leB_length]; exact al3_new w1 _ _ _) (HF1.out.bytes.below (al3_belowN w1 _ _ _)) (bytes_blk (t := 5) (al3_mid w1 _ _ _)) (by omega) (by rw [leB_length, HHL.out]; omega)
        refine hj.mono ?_
        rintro e w6 ⟨g2, c2, rfl, hf, hb⟩
        have hlw := al3_belowN w1 (.cells #[.slice (some ⟨g1, 0, none⟩) hd.length c1] 22) (.cells (secV (leB s 4)).toArray 5) (.cells #[.slice (some ⟨g1, 0, none⟩) hd.length c1, .slice (some ⟨w1.heap.size + 1, 0, none⟩) 4 4] 22)
        have hb6 : Below wr.heap.size wr w6 := HB1.out.trans ((show Below w1.heap.size w1 (((w1.alloc (.cells #[.slice (some ⟨g1, 0, none⟩) hd.length c1] 22)).alloc (.cells (secV (leB s 4)).toArray 5)).alloc (.cells #[.slice (some ⟨g1, 0, none⟩) hd.length c1, .slice (some ⟨w1.heap.size + 1, 0, none⟩) 4 4] 22)) from hlw).trans (hb.mono hlw.size) |>.mono HB1.out.size)
        have hge : wr.heap.size ≤ g2 := by
          by_cases hne : hd ++ leB s 4 = []
          · have := congrArg List.length hne; simp [leB_length] at this
          · exact Nat.le_trans (Nat.le_trans HB1.out.size hlw.size) (hf.new hne g2 0 rfl)
        obtain ⟨rw_, hrw⟩ : ∃ r, r = packRow n img k := ⟨_, rfl⟩
        have hre : hd ++ leB s 4 = rw_ := by rw [hrw, HS.out, HHD.out]; rfl
        rw [hre] at hf ⊢
        have HRL : Hid (rw_.length = 64) := Lib.hid (by rw [hrw]; exact packRow_length hl hlt)
        have HRW := Lib.hid hrw; have HB6 := Lib.hid hb6; have HGE := Lib.hid hge
        have HBY : Hid (Bytes w6 (some ⟨g2, 0, none⟩) rw_) := Lib.hid hf.bytes
        have HG2 : Hid (g2 < w6.heap.size) := Lib.hid (by
          rcases hf.bytes with h | ⟨b, o, e, hbl, _⟩
          · rw [h] at HRL; have := HRL.out; simp at this
          · cases e; exact hbl)
        clear hj hf hb hlw hb6 hge hre hrw
        have HKL : Hid ((packK n img k).length = k) := Lib.hid (packK_length n img k)
        have HOWN := Lib.hid HR.out.own
        go_wp2_with ((with_reducible refine gate_op (.call { callee := .builtin .append, args := #[.tmp 46, .tmp 55], argTypes := #[23, 23] }) rfl ?_); refine wpList_append_lies _ rfl (.tmp 46) (.tmp 55) 23 rfl w3.heap.size 22 i0 z0 1 24 Try.underlying23 HI0.out HZ0.out HZ1.out HZ2.out HZ3.out (by omega) v (packK n img k).length _ rfl (ownsRow_below (ownsRow_below HOWN.out HB6.out) (below_alloc1 w6 _)) ⟨w6.heap.size, 0, none⟩ 1 1 [sliceV g2 rw_.length c2] rfl rfl (World.news_of_block (cs := #[sliceV g2 rw_.length c2]) (heap_alloc_new w6 _)) (by simp [sliceV, Value.oneCell']) (by omega) (by rw [HKL.out]; unfold maxLen; omega) (by rw [HKL.out]; omega) (by have := HB.out.size; have := HB6.out.size; simp; omega) (w6.heap.size + 1) (by simp) ?_; intro g cp w7 hown1 hgrow hat hlt1)
        have hpush := HR.out.push (l := rw_) HB.out.size (V := w6.alloc (.cells #[sliceV g2 rw_.length c2] 22)) (HB6.out.trans ((below_alloc1 w6 _).mono HB6.out.size)) (HBY.out.below (below_alloc1 w6 _)) HGE.out (by have := HG2.out; simp; omega) hown1 hgrow (by simpa using hat)
        have hb7 : Below w3.heap.size w3 w7 := ((HB.out.trans (HB6.out.mono HB.out.size)).alloc (Nat.le_trans HB.out.size HB6.out.size) _).grown hgrow (by have := HB.out.size; have := HB6.out.size; simp; omega) (fun j hj => (HR.out.own.lt j hj).1)
        rw [HRW.out, ← packK_succ, HKL.out] at hpush
        have HP := Lib.hid hpush; have HB7 := Lib.hid hb7
        clear hpush hb7 hown1 hgrow hat hlt1
        go_wp2_with fail
        go_round
        · exact ⟨k + 1, _, _, _, by omega, by simp, by rw [HKL.out], HP, HB7⟩
        · simp [intOf]; omega
    · have p1 : decide ((k : Int) < 16) = false := decide_eq_false (by omega)
      obtain rfl : k = 16 := by omega
      go_wp2_with fail
      go_ret
      have hs := HB3.out.size
      refine ⟨v, gs, cs, rfl, ⟨?_, fun i hi => ⟨(HR.out.each i hi).1, Nat.le_trans hs (HR.out.each i hi).2.1, (HR.out.each i hi).2.2⟩, HR.out.apart⟩, HB3.out.trans (HB.out.mono hs)⟩
      refine ⟨HR.out.own.1, HR.out.own.2.imp id ?_⟩
      rintro ⟨g, cap, cur, h1, h2, h3⟩
      exact ⟨g, cap, cur, h1, Nat.le_trans hs h2, h3⟩
end Go.Proofs.Ythbdlfkdemjpoaa
