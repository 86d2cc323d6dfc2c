/- The reference's Pack. No condition. -/
import Derived.Test.YthbdlfkdemjpoaaK0
import Derived.Test.YthbdlfkdemjpoaaKA
import Derived.Test.YthbdlfkdemjpoaaB13
namespace Go.Proofs.Ythbdlfkdemjpoaa
open Go.RowKit Go.Maps
attribute [local go_sem ↓] Go.wp_at_zero Go.wp_at_succ

theorem Grew.form {B : Nat} {w w' : World} {v v' : Value} {l : Row} (h : Grew B w v l v' w') (hn : 0 < l.length) : ∃ g cap, v' = .slice (some ⟨g, 0, none⟩) l.length cap ∧ B ≤ g ∧ Hid (Bytes w' (some ⟨g, 0, none⟩) l) := by
  have ho := h.1
  rcases ho.2 with ⟨_, h0⟩ | ⟨g, cap, cur, rfl, hb, hg, h4, h5, h6, h7⟩
  · omega
  · refine ⟨g, cap, rfl, hb, Lib.hid (.inr ⟨g, 0, rfl, lt_of hg, fun j v hv => ?_⟩)⟩
    rw [Nat.zero_add, cell_of_row w' g j cur _ _ hg]
    rw [← h7, List.getElem?_take] at hv
    split at hv
    · simpa using hv
    · cases hv
theorem Grew.cap {B : Nat} {w w' : World} {v : Value} {l : Row} {a : Addr} {n cap : Nat} (h : Grew B w v l (.slice (some a) n cap) w') : l.length ≤ cap := by
  rcases h.1.2 with ⟨h0, _⟩ | ⟨g, cap', cur, h0, _, _, h4, _⟩
  · cases h0
  · cases h0; exact h4
theorem Grew.under {B : Nat} {w w' : World} {v v' : Value} {l m : Row} (h : Grew B w v l v' w') (hB : B ≤ w.heap.size) (ho : w.ownsRow B 5 1 v m.length (secV m)) : Below B w w' :=
  (Below.refl B w).grown h.2 hB fun j hj => (ho.lt j hj).1
theorem ownsRow_form8 {B n : Nat} {w : World} {v : Value} {xs : List Value} (h : w.ownsRow B 5 1 v (n + 1) xs) : ∃ g cap, v = .slice (some ⟨g, 0, none⟩) (n + 1) cap ∧ n + 1 ≤ cap := by
  rcases h.2 with ⟨_, h0⟩ | ⟨g, cap, cur, h1, _, _, h4, _⟩
  · omega
  · exact ⟨g, cap, h1, h4⟩
theorem app_chunk {B : Nat} (w4 : World) (ty : TypeId) (g4 cap4 g2 c2 n k : Nat) (img H9 HD : Row) (ho : w4.ownsRow B 5 1 (.slice (some ⟨g4, 0, none⟩) H9.length cap4) H9.length (secV H9)) (hb : Bytes w4 (some ⟨g2, 0, none⟩) (packAll img)) (hB : B ≤ w4.heap.size) (h9 : H9 = leB n 8 ++ [UInt8.ofNat k]) (hD : HD = packHead n img k) (hl : img.length ≤ 814) (hk : k < 16) :
    ∃ v' w', (Builtin.append_ #[22, 22] ty #[.slice (some ⟨g4, 0, none⟩) H9.length cap4, .slice (some ⟨g2, 51 * k, none⟩) 51 c2]).run Try.prog w4 = .ok v' w' ∧ Grew B w4 (.slice (some ⟨g4, 0, none⟩) H9.length cap4) HD v' w' := by
  have hs := bytes_sub hb (51 * k) 51
  rw [Nat.zero_add] at hs
  have hcl : (((packAll img).drop (51 * k)).take 51).length = 51 := by rw [List.length_take, List.length_drop, packAll_length hl]; omega
  have h9l : H9.length = 9 := by rw [h9, List.length_append, leB_length]; rfl
  have hj := append_bytes w4 ty _ H9 _ (some ⟨g2, 51 * k, none⟩) c2 ho hs hB (by rw [hcl, h9l]; omega)
  rw [hcl] at hj
  have e : H9 ++ ((packAll img).drop (51 * k)).take 51 = HD := by rw [hD, h9]; rfl
  rw [e] at hj
  exact hj
theorem app_four {B : Nat} (w5 : World) (ty : TypeId) (g5 cap5 n k s : Nat) (img HD RW : Row) (ho : w5.ownsRow B 5 1 (.slice (some ⟨g5, 0, none⟩) HD.length cap5) HD.length (secV HD)) (hB : B ≤ w5.heap.size) (hD : HD = packHead n img k) (hs : s = crc HD) (hR : RW = packRow n img k) (hl : img.length ≤ 814) (hk : k < 16) :
    ∃ v' w', (Builtin.append_ #[22, 22] ty #[.slice (some ⟨g5, 0, none⟩) HD.length cap5, .slice (some ⟨w5.heap.size, 0, none⟩) 4 4]).run Try.prog (w5.alloc (.cells (secV (leB s 4)).toArray 5)) = .ok v' w' ∧ Grew B (w5.alloc (.cells (secV (leB s 4)).toArray 5)) (.slice (some ⟨g5, 0, none⟩) HD.length cap5) RW v' w' := by
  have hdl : HD.length = 60 := by rw [hD]; exact packHead_length hl hk
  have hj := append_bytes (w5.alloc (.cells (secV (leB s 4)).toArray 5)) ty _ HD (leB s 4) (some ⟨w5.heap.size, 0, none⟩) 4 (ownsRow_below ho (below_alloc1 w5 _)) (bytes_blk (heap_alloc_new w5 _)) (by simp; exact Nat.le_succ_of_le hB) (by rw [hdl, leB_length]; omega)
  have e : HD ++ leB s 4 = RW := by rw [hR, hs, hD]; rfl
  rw [leB_length, e] at hj
  exact hj
def two (img : Row) : Array Value := #[.int .u8 ((img.length : Int) % 256), .int .u8 ((img.length : Int) / 256)]
theorem two_sec {img : Row} (hl : img.length ≤ 814) : (two img).toList = secV (leB img.length 2) := by
  have h0 : ∀ i, ((UInt8.ofNat (img.length / 2 ^ (8 * i))).toNat : Int) = ((img.length / 2 ^ (8 * i) % 256 : Nat) : Int) := fun i => by
    have : (UInt8.ofNat (img.length / 2 ^ (8 * i))).toNat = img.length / 2 ^ (8 * i) % 256 := UInt8.toNat_ofNat'
    rw [this]
  simp only [leB_succ, secV, List.map_append, List.map_cons, List.map_nil, h0]
  simp [leB, two]
  omega
set_option maxRecDepth 100000 in
set_option maxHeartbeats 4000000 in
theorem refPack_ok (n : Nat) (A : Option Addr) (img : Row) (c : Nat) (w : World) (hA : Bytes w A img) (h1 : 1 ≤ n) (h2 : n ≤ 1125899906842624) (hl : img.length ≤ 814) :
    Calls Try.prog 19 #[.int .i64 n, .slice A img.length c] w (Packed w (packK n img 16)) := by
  have q1 : decide ((n : Int) < 1) = false := decide_eq_false (by omega)
  have q2 : decide (1125899906842624 < (n : Int)) = false := decide_eq_false (by omega)
  have q3 : decide ((814 : Int) < (img.length : Int)) = false := decide_eq_false (by omega)
  have HA := Lib.hid hA
  clear hA
  have ho0 : (w.alloc (.cells (two img) 5)).ownsRow w.heap.size 5 1 (.slice (some ⟨w.heap.size, 0, none⟩) 2 2) (leB img.length 2).length (secV (leB img.length 2)) := by
    rw [← two_sec hl, leB_length]
    exact World.ownsRow_lit w (two img) 2 (Nat.le_refl _) (by unfold maxLen; omega) rfl
  have ha0 := append_bytes (w.alloc (.cells (two img) 5)) 22 (.slice (some ⟨w.heap.size, 0, none⟩) 2 2) (leB img.length 2) img A c ho0 (HA.out.below (below_alloc1 w _)) (by simp) (by rw [leB_length]; omega)
  obtain ⟨JL, hJL⟩ : ∃ JL, JL = leB img.length 2 ++ img := ⟨_, rfl⟩
  have hjl : JL.length = img.length + 2 := by rw [hJL, List.length_append, leB_length]; omega
  have HJL := Lib.hid hJL
  have hj1 : 0 < JL.length := by omega
  have hj2 : JL.length ≤ 816 := by omega
  rw [← hJL] at ha0
  have HJ16 := Lib.hid (show 816 - (JL.length : Int) = ((816 - JL.length : Nat) : Int) by omega)
  have HO0 := Lib.hid ho0
  have HA0 := hide ha0
  clear ho0 ha0 hJL hjl
  go_enter Try.func19, Try.ntmps19
  go_wp2_with (first | ((with_reducible refine gate_op (.call { callee := .builtin .append, args := #[.tmp 27, .tmp 28], argTypes := #[22, 22] }) rfl ?_); refine wpList_append_run rfl (.tmp 27) (.tmp 28) 22 22 rfl _ _ rfl rfl (Grew w.heap.size (w.alloc (.cells (two img) 5)) (.slice (some ⟨w.heap.size, 0, none⟩) 2 2) JL) (Hid.out HA0) ?_; intro v1 w1 hg1; obtain ⟨g1, cap1, rfl, hbg1, HBy1⟩ := hg1.form hj1; have HG1 := Lib.hid hg1; have HW1 : Hid (Below w.heap.size w w1) := Lib.hid ((below_alloc1 w _).trans (hg1.under (by simp) HO0.out)); clear hg1) | ((with_reducible refine gate_op (.call { callee := .builtin .append, args := #[.tmp 30, .tmp 33], argTypes := #[22, 3] }) rfl ?_); refine wpList_append_run rfl (.tmp 30) (.tmp 33) 22 3 rfl _ (.int .i64 ((816 - JL.length : Nat) : Int)) rfl (congrArg (Value.int .i64) HJ16.out) (Grew w.heap.size w1 (.slice (some ⟨g1, 0, none⟩) JL.length cap1) (JL ++ List.replicate (816 - JL.length) 0)) (append_noughts w1 _ _ JL _ HG1.out.1 (List.ne_nil_of_length_pos hj1) HW1.out.size (by omega)) ?_; intro v2 w2 hg2; have hpa : JL ++ List.replicate (816 - JL.length) 0 = packAll img := (by rw [HJL.out]; rfl); rw [hpa] at hg2; have hpl : (packAll img).length = 816 := packAll_length hl; obtain ⟨g2, cap2, rfl, hbg2, HBy2⟩ := hg2.form (by omega); have HW2 := Lib.hid ((HW1.out).trans ((hg2.under HW1.out.size HG1.out.1))); have HCAP := Lib.hid (show 816 ≤ cap2 from (by rw [← hpl]; exact hg2.cap)); rw [hpl]; clear hg2 hpa hpl))
  obtain ⟨i0, hi0, z0, hz0, hz1, hz2, hz3⟩ := infoBRow_parts
  have HI0 := Lib.hid hi0; have HZ0 := Lib.hid hz0; have HZ1 := Lib.hid hz1; have HZ2 := Lib.hid hz2; have HZ3 : Hid (z0.cells.size = 1) := Lib.hid (by rw [hz3]; rfl)
  clear hi0 hz0 hz1 hz2 hz3
  go_loopw [6, 7] (fun v i wr => ∃ (k : Nat) (v0 : Value) (gs cs : Nat → Nat), k ≤ 16 ∧ i = .int .i64 k ∧ v0 = v ∧ Hid (Rows w2.heap.size wr v0 (packK n img k) gs cs) ∧ Hid (Below w2.heap.size w2 wr)) (fun _ i _ => 200 - (intOf i).toNat)
  case atStart => exact ⟨0, _, fun _ => 0, fun _ => 0, by omega, rfl, rfl, Lib.hid (Rows.nil _ _ _ _), Lib.hid (Below.refl _ _)⟩
  case round =>
    obtain ⟨k, v, gs, cs, hk, rfl, rfl, HR, HB⟩ := hrel
    by_cases hlt : k < 16
    · have p1 : decide ((k : Int) < 16) = true := decide_eq_true (by omega)
      have kw1 : IntKind.i64.wrap ((k : Int) * 51) = (k : Int) * 51 := IntWalk.i64_in _ (by omega)
      have kw2 : IntKind.i64.wrap ((k : Int) + 1) = (k : Int) + 1 := IntWalk.i64_in _ (by omega)
      have kw3 : IntKind.i64.wrap (((k : Int) + 1) * 51) = ((k : Int) + 1) * 51 := IntWalk.i64_in _ (by omega)
      go_wp2_with fail
      refine (refEight_any n wr).mono ?_
      rintro e w3 ⟨v3, rfl, ho3, hb3⟩
      obtain ⟨g3, cap3, rfl, hlt3⟩ := ownsRow_form8 ho3
      have HO3 := Lib.hid ho3; have HB3 := Lib.hid hb3
      clear ho3 hb3
      obtain ⟨H9, hH9⟩ : ∃ H9, H9 = leB n 8 ++ [UInt8.ofNat k] := ⟨_, rfl⟩
      have h9l : H9.length = 9 := by rw [hH9, List.length_append, leB_length]; rfl
      have hkb : Bytes (w3.alloc (.cells #[.int .u8 (k : Int)] 5)) (some ⟨w3.heap.size, 0, none⟩) [UInt8.ofNat k] := bytes_one (heap_alloc_new w3 _) k (by omega)
      have hap4 := append_bytes (B := wr.heap.size) (w3.alloc (.cells #[.int .u8 (k : Int)] 5)) 22 (.slice (some ⟨g3, 0, none⟩) 8 cap3) (leB n 8) [UInt8.ofNat k] _ 1 (by rw [leB_length]; exact ownsRow_below HO3.out (below_alloc1 w3 _)) hkb (by simp; exact Nat.le_succ_of_le HB3.out.size) (by rw [leB_length]; simp)
      rw [← hH9] at hap4
      have HAP4 := hide hap4
      have HH9 := Lib.hid hH9; have H9L := Lib.hid h9l
      clear hap4 hkb hH9 h9l
      have ksl : ∀ W, (Instr.slice 22 (.slice (some ⟨g2, 0, none⟩) 816 cap2) (some (.int .i64 ((k : Int) * 51))) (some (.int .i64 (((k : Int) + 1) * 51))) none).run Try.prog W = .ok (.slice (some ⟨g2, 51 * k, none⟩) 51 (cap2 - 51 * k)) W := fun W => by
        have hc := HCAP.out
        have := slice_lh W g2 0 816 cap2 (51 * k) (51 * k + 51) 51 (by omega) (by omega) (by omega) (by omega) ((k : Int) * 51) (((k : Int) + 1) * 51) (by omega) (by omega)
        rwa [Nat.zero_add] at this
      obtain ⟨HD, hHD⟩ : ∃ HD, HD = packHead n img k := ⟨_, rfl⟩
      have hdl : HD.length = 60 := by rw [hHD]; exact packHead_length hl hlt
      have HHD := Lib.hid hHD; have HDL := Lib.hid hdl
      have hcl : (((packAll img).drop (51 * k)).take 51).length = 51 := by rw [List.length_take, List.length_drop, packAll_length hl]; omega
      have HCL := Lib.hid hcl
      clear hHD hdl hcl
      go_wp2_with (first | ((with_reducible refine gate_op (.call { callee := .builtin .append, args := #[.tmp 40, .tmp 43], argTypes := #[22, 22] }) rfl ?_); refine wpList_append_run rfl (.tmp 40) (.tmp 43) 22 22 rfl _ _ rfl rfl (Grew wr.heap.size (w3.alloc (.cells #[.int .u8 (k : Int)] 5)) (.slice (some ⟨g3, 0, none⟩) 8 cap3) H9) (Hid.out HAP4) ?_; intro v4 w4 hg4; obtain ⟨g4, cap4, rfl, hbg4, HBy4⟩ := hg4.form (by have := H9L.out; omega); have HG4 := Lib.hid hg4; (have HW4 : Hid (Below wr.heap.size wr w4) := Lib.hid ((HB3.out.alloc HB3.out.size _).trans (hg4.under (m := leB n 8) (by simp; exact Nat.le_succ_of_le HB3.out.size) (by rw [leB_length]; exact ownsRow_below HO3.out (below_alloc1 w3 _))))); clear hg4) | ((with_reducible refine gate_op (.call { callee := .builtin .append, args := #[.tmp 45, .tmp 52], argTypes := #[22, 22] }) rfl ?_); refine wpList_append_run rfl (.tmp 45) (.tmp 52) 22 22 rfl _ (.slice (some ⟨g2, 51 * k, none⟩) 51 (cap2 - 51 * k)) rfl rfl (Grew wr.heap.size w4 (.slice (some ⟨g4, 0, none⟩) H9.length cap4) HD) (app_chunk w4 _ g4 cap4 g2 (cap2 - 51 * k) n k img H9 HD HG4.out.1 ((HBy2.out.below HB.out).below HW4.out) HW4.out.size HH9.out HHD.out hl hlt) ?_; intro v5 w5 hg5; obtain ⟨g5, cap5, rfl, hbg5, HBy5⟩ := hg5.form (by have := HDL.out; omega); have HG5 := Lib.hid hg5; (have HW5 : Hid (Below wr.heap.size wr w5) := Lib.hid (HW4.out.trans (hg5.under HW4.out.size HG4.out.1))); clear hg5))
      refine (refSum_any (some ⟨g5, 0, none⟩) HD cap5 w5 HBy5.out (by rw [HDL.out]; omega)).mono ?_
      rintro e w6 ⟨rfl, rfl⟩
      obtain ⟨s, hs⟩ : ∃ s, s = crc HD := ⟨_, rfl⟩
      rw [← hs]
      have hsl : s < 4294967296 := by rw [hs]; exact crc_lt _
      have HS := Lib.hid hs
      clear hs
      go_wp2_with fail
      refine (refFour_any s w5 hsl).mono ?_
      rintro e w6 ⟨rfl, rfl⟩
      obtain ⟨RW, hRW⟩ : ∃ RW, RW = packRow n img k := ⟨_, rfl⟩
      have hrl : RW.length = 64 := by rw [hRW]; exact packRow_length hl hlt
      have HRW := Lib.hid hRW; have HRL := Lib.hid hrl
      clear hRW hrl
      have HAP7 := hide (app_four (B := wr.heap.size) w5 22 g5 cap5 n k s img HD RW HG5.out.1 HW5.out.size HHD.out HS.out HRW.out hl hlt)
      have HKL : Hid ((packK n img k).length = k) := Lib.hid (packK_length n img k)
      have HOWN := Lib.hid HR.out.own
      go_wp2_with (first | ((with_reducible refine gate_op (.call { callee := .builtin .append, args := #[.tmp 55, .tmp 58], argTypes := #[22, 22] }) rfl ?_); refine wpList_append_run rfl (.tmp 55) (.tmp 58) 22 22 rfl _ _ rfl rfl (Grew wr.heap.size (w5.alloc (.cells (secV (leB s 4)).toArray 5)) (.slice (some ⟨g5, 0, none⟩) HD.length cap5) RW) (Hid.out HAP7) ?_; intro v7 w7 hg7; obtain ⟨g7, cap7, rfl, hbg7, HBy7⟩ := hg7.form (by have := HRL.out; omega); have HG7 := Lib.hid hg7; (have HW7 : Hid (Below wr.heap.size wr w7) := Lib.hid ((HW5.out.alloc HW5.out.size _).trans (hg7.under (m := HD) (by simp; exact Nat.le_succ_of_le HW5.out.size) (ownsRow_below HG5.out.1 (below_alloc1 w5 _))))); clear hg7) | ((with_reducible refine gate_op (.call { callee := .builtin .append, args := #[.tmp 54, .tmp 60], argTypes := #[23, 23] }) rfl ?_); refine wpList_append_lies _ rfl (.tmp 54) (.tmp 60) 23 rfl w2.heap.size 22 i0 z0 1 24 Try.underlying23 HI0.out HZ0.out HZ1.out HZ2.out HZ3.out (by omega) v (packK n img k).length _ rfl (ownsRow_below (ownsRow_below HOWN.out HW7.out) (below_alloc1 w7 _)) ⟨w7.heap.size, 0, none⟩ 1 1 [sliceV g7 RW.length cap7] rfl rfl (World.news_of_block (cs := #[sliceV g7 RW.length cap7]) (heap_alloc_new w7 _)) (by simp [sliceV, Value.oneCell']) (by omega) (by rw [HKL.out]; unfold maxLen; omega) (by rw [HKL.out]; omega) (by have := HB.out.size; have := HW7.out.size; simp; omega) (w7.heap.size + 1) (by simp) ?_; intro g cp w8 hown1 hgrow hat hlt1))
      have hpush := HR.out.push (l := RW) HB.out.size (V := w7.alloc (.cells #[sliceV g7 RW.length cap7] 22)) (HW7.out.trans ((below_alloc1 w7 _).mono HW7.out.size)) (HBy7.out.below (below_alloc1 w7 _)) hbg7 (by have := (HG7.out.1.lt g7 rfl).2; simp; omega) hown1 hgrow (by simpa using hat)
      have hb8 : Below w2.heap.size w2 w8 := ((HB.out.trans (HW7.out.mono HB.out.size)).alloc (Nat.le_trans HB.out.size HW7.out.size) _).grown hgrow (by have := HB.out.size; have := HW7.out.size; simp; omega) (fun j hj => (HR.out.own.lt j hj).1)
      rw [HRW.out, ← packK_succ, HKL.out] at hpush
      have HP := Lib.hid hpush; have HB8 := Lib.hid hb8
      clear hpush hb8 hown1 hgrow hat hlt1
      go_wp2_with fail
      go_round
      · exact ⟨k + 1, _, _, _, by omega, by simp, by rw [HKL.out], HP, HB8⟩
      · simp [intOf]; omega
    · have p1 : decide ((k : Int) < 16) = false := decide_eq_false (by omega)
      obtain rfl : k = 16 := by omega
      go_wp2_with fail
      go_ret
      have hs := HW2.out.size
      refine ⟨v, gs, cs, rfl, ⟨?_, fun i hi => ⟨(HR.out.each i hi).1, Nat.le_trans hs (HR.out.each i hi).2.1, (HR.out.each i hi).2.2⟩, HR.out.apart⟩, HW2.out.trans (HB.out.mono hs)⟩
      refine ⟨HR.out.own.1, HR.out.own.2.imp id ?_⟩
      rintro ⟨g, cap, cur, h1, h2, h3⟩
      exact ⟨g, cap, cur, h1, Nat.le_trans hs h2, h3⟩
end Go.Proofs.Ythbdlfkdemjpoaa
