/- What super's read tells. No condition. -/
import Derived.Test.YthbdlfkdemjpoaaE0
import Derived.Test.YthbdlfkdemjpoaaB5
import Derived.BigQuiet
namespace Go.Proofs.Ythbdlfkdemjpoaa
open Go.RowKit Go.Maps
attribute [local go_sem ↓] Go.wp_at_zero Go.wp_at_succ

/-- The number that a sector bears, if its sum is right. -/
def rowNum (b : Row) : Nat := if numB (b.drop 60) = crc (b.take 60) ∧ numB (b.take 8) ≤ 1125899906842624 then numB (b.take 8) else 0
def DS.slot (D : DS) (b k : Nat) : List Row := (List.range k).map fun i => D.read (b + i)
def greatest : List Row → Nat
  | [] => 0
  | r :: l => max (rowNum r) (greatest l)
theorem greatest_snoc (l : List Row) (r : Row) : greatest (l ++ [r]) = max (greatest l) (rowNum r) := by
  induction l with
  | nil => simp [greatest]
  | cons x l ih => simp only [List.cons_append, greatest, ih]; omega
theorem rowNum_le (r : Row) : rowNum r ≤ 1125899906842624 := by unfold rowNum; split <;> omega
theorem greatest_le : ∀ l, greatest l ≤ 1125899906842624
  | [] => by simp [greatest]
  | r :: l => by have := rowNum_le r; have := greatest_le l; simp only [greatest]; omega
theorem DS.slot_length (D : DS) (b k : Nat) : (D.slot b k).length = k := by simp [DS.slot]
theorem DS.slot_succ (D : DS) (b k : Nat) : D.slot b (k + 1) = D.slot b k ++ [D.read (b + k)] := by simp [DS.slot, List.range_succ]
def ReadOut (w : World) (ls : List Row) (m : Nat) (e : Ending) (w' : World) : Prop := ∃ v gs, e = .returned (.tuple #[v, .int .i64 m]) ∧ Rows w.heap.size w' v ls gs (fun _ => 64) ∧ Below w.heap.size w w'
theorem hide {p : Prop} (h : p) : Hid p := h
theorem first_below (w W : World) (h : W.heap = w.heap ∨ ∃ o, W = (w.alloc o).drew) (h2 : W.os = w.os := by rfl) (h3 : W.tape = w.tape := by rfl) (h4 : W.output = w.output := by rfl) : Below w.heap.size w W := by
  rcases h with h | ⟨o, rfl⟩
  · exact ⟨h2, h3, h4, by rw [h]; exact Nat.le_refl _, fun k _ => by rw [h]⟩
  · exact (below_alloc1 w o).drew
set_option maxRecDepth 100000 in
set_option maxHeartbeats 4000000 in
theorem read_any {B : Nat} (p : Nat) (S : Nat → Prop) (D : DS) (at_ : Nat) (w : World) (h : Dk B w p S D) (hat : at_ ≤ 1) (hd : 32 ≤ D.lasts.length) :
    Calls Try.prog 56 #[.pointer (some ⟨p, 0, none⟩), .int .i64 at_] w (ReadOut w (D.slot (16 * at_) 16) (greatest (D.slot (16 * at_) 16))) := by
  have H := Lib.hid h; have HDL := Lib.hid hd
  obtain ⟨i0, hi0, z0, hz0, hz1, hz2, hz3⟩ := infoBRow_parts
  have HI0 := Lib.hid hi0; have HZ0 := Lib.hid hz0; have HZ1 := Lib.hid hz1; have HZ2 := Lib.hid hz2; have HZ3 : Hid (z0.cells.size = 1) := Lib.hid (by rw [hz3]; rfl)
  clear h hd hi0 hz0 hz1 hz2 hz3
  go_enter Try.func56, Try.ntmps56
  go_wp2_with fail
  go_loopw [4, 5, 10] (fun v g i wr => ∃ (k gr : Nat) (v0 : Value) (gs : Nat → Nat), k ≤ 16 ∧ i = .int .i64 k ∧ v0 = v ∧ g = .int .i64 gr ∧ gr ≤ 1125899906842624 ∧ Hid (gr = greatest (D.slot (16 * at_) k)) ∧ Hid (Rows w.heap.size wr v0 (D.slot (16 * at_) k) gs (fun _ => 64)) ∧ Hid (Below w.heap.size w wr)) (fun _ _ i _ => 200 - (intOf i).toNat)
  case atStart => exact ⟨0, 0, _, fun _ => 0, by omega, rfl, rfl, rfl, by omega, Lib.hid rfl, Lib.hid (Rows.nil _ _ _ _), Lib.hid (Below.refl _ _)⟩
  case round =>
    obtain ⟨k, gr, v, gs, hk, rfl, rfl, rfl, hgr, HG, HR, HB⟩ := hrel
    by_cases hlt : k < 16
    · have p1 : decide ((k : Int) < 16) = true := decide_eq_true (by omega)
      have HD := Lib.hid (H.out.below HB.out)
      have HJ : Hid (16 * at_ + k < D.lasts.length) := Lib.hid (by have := HDL.out; omega)
      have HSL := Lib.hid (DS.read_length HD.out.ok (16 * at_ + k) HJ.out)
      obtain ⟨s, hs⟩ : ∃ s, s = D.read (16 * at_ + k) := ⟨_, rfl⟩
      have HS := Lib.hid hs
      rw [← hs] at HSL
      have hw : (at_ : Int) * 16 + (k : Int) = ((16 * at_ + k : Nat) : Int) := by omega
      have HW := Lib.hid hw
      clear hs hw
      go_wp2_with fail
      rw [HW.out]
      refine (read_in p S D (16 * at_ + k) wr HD.out.at_ HJ.out).mono ?_
      rintro e w1 ⟨rfl, rfl⟩
      rw [← HS.out]
      have hbs := bytes_blk (heap_alloc_new wr (.cells (secV s).toArray 97))
      have hb1 : Below wr.heap.size wr (wr.alloc (.cells (secV s).toArray 97)) := below_alloc1 wr _
      obtain ⟨g0, hg0⟩ : ∃ g, g = wr.heap.size := ⟨_, rfl⟩
      obtain ⟨w1, hw1⟩ : ∃ w1, w1 = wr.alloc (.cells (secV s).toArray 97) := ⟨_, rfl⟩
      have hsz1 : g0 < w1.heap.size := by rw [hw1, hg0]; simp
      rw [← hw1, ← hg0] at hbs
      rw [← hw1] at hb1
      rw [← hw1, ← hg0]
      have HBS := Lib.hid hbs; have HB1 := Lib.hid hb1; have HG0 := Lib.hid hg0
      clear hbs hb1 hg0 hw1
      have HKL : Hid ((D.slot (16 * at_) k).length = k) := Lib.hid (DS.slot_length D _ k)
      have HOWN := Lib.hid HR.out.own
      go_wp2_with ((with_reducible refine gate_op (.call { callee := .builtin .append, args := #[.tmp 22, .tmp 24], argTypes := #[23, 23] }) rfl ?_); refine wpList_append_lies _ rfl (.tmp 22) (.tmp 24) 23 rfl w.heap.size 22 i0 z0 1 24 Try.underlying23 HI0.out HZ0.out HZ1.out HZ2.out HZ3.out (by omega) v (D.slot (16 * at_) k).length _ rfl (ownsRow_below (ownsRow_below HOWN.out HB1.out) (below_alloc1 w1 _)) ⟨w1.heap.size, 0, none⟩ 1 1 [sliceV g0 64 64] rfl rfl (World.news_of_block (cs := #[sliceV g0 64 64]) (heap_alloc_new w1 _)) (by simp [sliceV, Value.oneCell']) (by omega) (by rw [HKL.out]; unfold maxLen; omega) (by rw [HKL.out]; omega) (by have := HB.out.size; have := HB1.out.size; simp; omega) (w1.heap.size + 1) (by simp) ?_; intro g cp w7 hown1 hgrow hat2 hlt1)
      have hpush := HR.out.push (l := s) (c' := 64) HB.out.size (V := w1.alloc (.cells #[sliceV g0 64 64] 22)) (HB1.out.trans ((below_alloc1 w1 _).mono HB1.out.size)) (HBS.out.below (below_alloc1 w1 _)) (by rw [HG0.out]; exact Nat.le_refl _) (by simp; omega) (by rw [HSL.out]; exact hown1) hgrow (by simpa using hat2)
      have hb7 : Below w.heap.size w w7 := ((HB.out.trans (HB1.out.mono HB.out.size)).alloc (Nat.le_trans HB.out.size HB1.out.size) _).grown hgrow (by have := HB.out.size; have := HB1.out.size; simp; omega) (fun j hj => (HR.out.own.lt j hj).1)
      have hbs7 : Bytes w7 (some ⟨g0, 0, none⟩) s := by
        have := (hpush.each k (by simp [HKL.out])).1
        simp only [HKL.out, Nat.lt_irrefl, if_false] at this
        have e : (D.slot (16 * at_) k ++ [s]).getD k [] = s := by
          simp only [List.getD_eq_getElem?_getD]; rw [List.getElem?_append_right (by rw [HKL.out]; exact Nat.le_refl _), HKL.out]; simp
        rwa [e] at this
      have hsl := D.slot_succ (16 * at_) k
      rw [← HS.out] at hsl
      rw [← hsl, HKL.out] at hpush
      rw [show (fun i => if i < k then 64 else 64) = (fun _ : Nat => 64) from funext fun i => by split <;> rfl] at hpush
      have HP := Lib.hid hpush; have HB7 := Lib.hid hb7; have HBS7 := Lib.hid hbs7; have HSLS := Lib.hid hsl
      clear hpush hb7 hbs7 hown1 hgrow hat2 hlt1 hsl
      rw [HKL.out]
      have hn8 := number_any (some ⟨g0, 0, none⟩) 64 (s.take 8) w7 (by have := bytes_sub HBS7.out 0 8; simpa using this) (by simp; omega)
      rw [show (s.take 8).length = 8 by rw [List.length_take, HSL.out]; rfl] at hn8
      have HN8 := Lib.hid hn8
      obtain ⟨nm, hnm⟩ : ∃ n, n = numB (s.take 8) := ⟨_, rfl⟩
      rw [← hnm] at HN8
      have hnl : nm < 18446744073709551616 := by
        have := numB_lt (s.take 8)
        rw [show (s.take 8).length = 8 by rw [List.length_take, HSL.out]; rfl, ← hnm] at this
        omega
      have HNM := Lib.hid hnm
      clear hn8 hnm
      go_wp2_with fail
      refine HN8.out.mono ?_
      rintro e w8 ⟨rfl, rfl⟩
      have HN4 : Hid (∀ W : World, Below w7.heap.size w7 W → Calls Try.prog 75 #[.slice (some ⟨g0, 60, none⟩) 4 4] W fun e w' => e = .returned (.int .u64 (numB (s.drop 60))) ∧ W = w') := hide fun W hW => by
        have := number_any (some ⟨g0, 60, none⟩) 4 (s.drop 60) W (by have := bytes_sub (HBS7.out.below hW) 60 4; rwa [List.take_of_length_le (by rw [List.length_drop, HSL.out]; omega), Nat.zero_add] at this) (by rw [List.length_drop, HSL.out]; omega)
        rwa [show (s.drop 60).length = 4 by rw [List.length_drop, HSL.out]] at this
      have HS4 : Hid (∀ W : World, W.heap = (w7.alloc (.cells #[.slice (some ⟨g0, 0, none⟩) 60 64] 22)).heap → Calls Try.prog 49 #[.slice (some ⟨w7.heap.size, 0, none⟩) 1 1] W fun e w' => e = .returned (.int .u32 (crc (s.take 60))) ∧ W = w') := hide fun W hW => by
        have hl60 : (s.take 60).length = 60 := by rw [List.length_take, HSL.out]; rfl
        refine sum_one w7.heap.size 0 1 (some ⟨g0, 0, none⟩) (s.take 60) 64 W ?_ ?_ (by omega)
        · rw [cell_of (by rw [hW]; exact heap_alloc_new w7 _), hl60]; rfl
        · have h1 := HBS7.out.below (below_alloc1 w7 (.cells #[.slice (some ⟨g0, 0, none⟩) 60 64] 22))
          have h2 := bytes_sub h1 0 60
          rw [List.drop_zero] at h2
          exact h2.fix (by rw [hW]; exact Nat.le_refl _) (fun b o _ _ => by rw [hW])
      obtain ⟨n4, hn4⟩ : ∃ n, n = numB (s.drop 60) := ⟨_, rfl⟩
      obtain ⟨sm, hsm⟩ : ∃ n, n = crc (s.take 60) := ⟨_, rfl⟩
      rw [← hn4] at HN4
      rw [← hsm] at HS4
      have hsml : sm < 4294967296 := by rw [hsm]; exact crc_lt _
      have kwu : IntKind.u64.wrap (sm : Int) = (sm : Int) := by rw [IntKind.wrap_u64]; omega
      have HN4E := Lib.hid hn4; have HSME := Lib.hid hsm
      clear hn4 hsm
      obtain ⟨rn, hrn⟩ : ∃ r, r = rowNum s := ⟨_, rfl⟩
      have hcase : (n4 = sm ∧ nm ≤ 1125899906842624 ∧ rn = nm) ∨ ((n4 ≠ sm ∨ (n4 = sm ∧ ¬ nm ≤ 1125899906842624)) ∧ rn = 0) := by
        rw [hrn]
        unfold rowNum
        rw [← HN4E.out, ← HSME.out, ← HNM.out]
        by_cases h1 : n4 = sm
        · by_cases h2 : nm ≤ 1125899906842624
          · exact .inl ⟨h1, h2, if_pos ⟨h1, h2⟩⟩
          · exact .inr ⟨.inr ⟨h1, h2⟩, if_neg fun h => h2 h.2⟩
        · exact .inr ⟨.inl h1, if_neg fun h => h1 h.1⟩
      have HGS : Hid (greatest (D.slot (16 * at_) (k + 1)) = max gr rn) := Lib.hid (by rw [HSLS.out, greatest_snoc, ← HG.out, hrn])
      clear hrn
      rcases hcase with ⟨h1, h2, rfl⟩ | ⟨h1 | ⟨h1, h2⟩, rfl⟩
      · subst h1
        have qn : decide ((rn : Int) ≤ 1125899906842624) = true := decide_eq_true (by omega)
        go_wp2_with fail
        (go_region_held3 (fun w' => w7.heap.size ≤ w'.heap.size) (first | (simp; done) | (simp; omega)) (first | (go_at_call 75; refine (HN4.out _ (first_below w7 _ (by first | exact .inl rfl | exact .inr ⟨_, rfl⟩))).mono ?_; rintro e w' ⟨rfl, rfl⟩) | (go_at_call 49; refine (HS4.out _ (by rfl)).mono ?_; rintro e w' ⟨rfl, rfl⟩)))
        all_goals
          have HB8 := Lib.hid (HB7.out.alloc HB7.out.size (.cells #[.slice (some ⟨g0, 0, none⟩) 60 64] 22))
          have HP8 := Lib.hid (HP.out.below (below_alloc1 w7 (.cells #[.slice (some ⟨g0, 0, none⟩) 60 64] 22)))
          go_wp2_with fail
          go_round
          · exact ⟨k + 1, max gr rn, _, _, by omega, by simp, rfl, by simp; omega, by omega, Lib.hid (HGS.out.symm), Lib.hid (HP8.out.below ((Below.refl _ _).drew)), Lib.hid HB8.out.drew⟩
          · simp [intOf]; omega
      · have qn : ((n4 : Int) == (sm : Int)) = false := by simp; omega
        go_wp2_with fail
        (refine wp_region_E (fun w' => w7.heap.size ≤ w'.heap.size) 12 (by kernel_rfl) (by kernel_rfl) (Nat.le_refl _) (fun hHeld => ?_); (refine wpE_take (i := 0) 29 (v := ?_) (by kernel_rfl) rfl rfl (by decide) (by kernel_rfl) (by kernel_rfl) (fun _ _ _ h => h) (Or.inl ⟨by rfl, ?_⟩) (by assumption) ?_; rotate_left; (focus (intro w hSw; (try dsimp only at hSw); go_simp; try with_reducible rfl)); (try simp only [Act.put, List.setIfInBounds_toArray, List.set_cons_zero, List.set_cons_succ])); (refine wpE_take (i := 1) 30 (v := ?_) (by kernel_rfl) rfl rfl (by decide) (by kernel_rfl) (by kernel_rfl) (fun _ _ _ h => h) (Or.inl ⟨by rfl, ?_⟩) (by assumption) ?_; rotate_left; (focus (intro w hSw; (try dsimp only at hSw); go_simp; try with_reducible rfl)); (try simp only [Act.put, List.setIfInBounds_toArray, List.set_cons_zero, List.set_cons_succ])); (refine wpE_take (i := 3) 32 (v := ?_) (by kernel_rfl) rfl rfl (by decide) (by kernel_rfl) (by kernel_rfl) (fun _ _ _ h => h) (Or.inl ⟨by rfl, ?_⟩) (by assumption) ?_; rotate_left; (focus (intro w hSw; (try dsimp only at hSw); go_simp; try with_reducible rfl)); (try simp only [Act.put, List.setIfInBounds_toArray, List.set_cons_zero, List.set_cons_succ])); (refine wpE_take (i := 4) 33 (v := ?_) (by kernel_rfl) rfl rfl (by decide) (by kernel_rfl) (by kernel_rfl) (fun _ _ _ h => h) (Or.inl ⟨by rfl, ?_⟩) (by assumption) ?_; rotate_left; (focus (intro w hSw; (try dsimp only at hSw); go_simp; try with_reducible rfl)); (try simp only [Act.put, List.setIfInBounds_toArray, List.set_cons_zero, List.set_cons_succ])); refine wpE_two (i := 2) (j := 5) rfl rfl (by kernel_rfl) (by decide) (by decide) (fun K hK => ?_) (fun K hK => ?_); (focus ((go_simp; refine (HN4.out _ (first_below w7 _ (by first | exact .inl rfl | exact .inr ⟨_, rfl⟩))).mono ?_; rintro e w' ⟨rfl, rfl⟩; refine hK.out _ _ ?_ (fun hHeld2 => ?_); (focus (first | (simp; done) | (simp; omega))); (clear hK K; clear hHeld; have hHeld := hHeld2; clear hHeld2; (try simp only [Act.put, List.setIfInBounds_toArray, List.set_cons_zero, List.set_cons_succ]))); refine wpE_one (i := 5) rfl (by kernel_rfl) (by decide) (fun K hK => ?_); (go_simp; refine hK.out _ _ ?_ (fun hHeld2 => ?_); (focus (first | (simp; done) | (simp; omega))); (clear hK K; clear hHeld; have hHeld := hHeld2; clear hHeld2; (try simp only [Act.put, List.setIfInBounds_toArray, List.set_cons_zero, List.set_cons_succ]))); (refine wpE_one (i := 6) rfl (by kernel_rfl) (by decide) (fun K hK => ?_); (go_simp; refine (HS4.out _ (by rfl)).mono ?_; rintro e w' ⟨rfl, rfl⟩; refine hK.out _ _ ?_ (fun hHeld2 => ?_); (focus (first | (simp; done) | (simp; omega))); (clear hK K; clear hHeld; have hHeld := hHeld2; clear hHeld2; (try simp only [Act.put, List.setIfInBounds_toArray, List.set_cons_zero, List.set_cons_succ]))); (refine wpE_take (i := 7) 36 (v := ?_) (by kernel_rfl) rfl rfl (by decide) (by kernel_rfl) (by kernel_rfl) (fun _ _ _ h => h) (Or.inl ⟨by rfl, ?_⟩) (by assumption) ?_; rotate_left; (focus (intro w hSw; (try dsimp only at hSw); go_simp; try with_reducible rfl)); (try simp only [Act.put, List.setIfInBounds_toArray, List.set_cons_zero, List.set_cons_succ])); (refine wpE_take (i := 8) 37 (v := ?_) (by kernel_rfl) rfl rfl (by decide) (by kernel_rfl) (by kernel_rfl) (fun _ _ _ h => h) (Or.inl ⟨by rfl, ?_⟩) (by assumption) ?_; rotate_left; (focus (intro w hSw; (try dsimp only at hSw); go_simp; try with_reducible rfl)); (try simp only [Act.put, List.setIfInBounds_toArray, List.set_cons_zero, List.set_cons_succ])); (refine wpE_take (i := 9) 38 (v := ?_) (by kernel_rfl) rfl rfl (by decide) (by kernel_rfl) (by kernel_rfl) (fun _ _ _ h => h) (Or.inl ⟨by rfl, ?_⟩) (by assumption) ?_; rotate_left; (focus (intro w hSw; (try dsimp only at hSw); go_simp; try with_reducible rfl)); (try simp only [Act.put, List.setIfInBounds_toArray, List.set_cons_zero, List.set_cons_succ])); (refine wpE_take (i := 10) 39 (v := undef) (by kernel_rfl) rfl rfl (by decide) (by kernel_rfl) (by kernel_rfl) (fun _ _ _ h => h) (Or.inr ⟨by rfl, rfl⟩) (by assumption) ?_; (try simp only [Act.put, List.setIfInBounds_toArray, List.set_cons_zero, List.set_cons_succ])); (refine wpE_take (i := 11) 40 (v := undef) (by kernel_rfl) rfl rfl (by decide) (by kernel_rfl) (by kernel_rfl) (fun _ _ _ h => h) (Or.inr ⟨by rfl, rfl⟩) (by assumption) ?_; (try simp only [Act.put, List.setIfInBounds_toArray, List.set_cons_zero, List.set_cons_succ])); refine wpE_end rfl (by kernel_rfl) (by kernel_rfl) (fun K hK => ?_); go_simp; refine hK.out _ _ ?_; clear hK K hHeld))); rotate_left; (focus ((go_simp; refine hK.out _ _ ?_ (fun hHeld2 => ?_); (focus (first | (simp; done) | (simp; omega))); (clear hK K; clear hHeld; have hHeld := hHeld2; clear hHeld2; (try simp only [Act.put, List.setIfInBounds_toArray, List.set_cons_zero, List.set_cons_succ]))); refine wpE_one (i := 2) rfl (by kernel_rfl) (by decide) (fun K hK => ?_); (go_simp; refine (HN4.out _ (first_below w7 _ (by first | exact .inl rfl | exact .inr ⟨_, rfl⟩))).mono ?_; rintro e w' ⟨rfl, rfl⟩; refine hK.out _ _ ?_ (fun hHeld2 => ?_); (focus (first | (simp; done) | (simp; omega))); (clear hK K; clear hHeld; have hHeld := hHeld2; clear hHeld2; (try simp only [Act.put, List.setIfInBounds_toArray, List.set_cons_zero, List.set_cons_succ]))); (refine wpE_one (i := 6) rfl (by kernel_rfl) (by decide) (fun K hK => ?_); (go_simp; refine (HS4.out _ (by rfl)).mono ?_; rintro e w' ⟨rfl, rfl⟩; refine hK.out _ _ ?_ (fun hHeld2 => ?_); (focus (first | (simp; done) | (simp; omega))); (clear hK K; clear hHeld; have hHeld := hHeld2; clear hHeld2; (try simp only [Act.put, List.setIfInBounds_toArray, List.set_cons_zero, List.set_cons_succ]))); (refine wpE_take (i := 7) 36 (v := ?_) (by kernel_rfl) rfl rfl (by decide) (by kernel_rfl) (by kernel_rfl) (fun _ _ _ h => h) (Or.inl ⟨by rfl, ?_⟩) (by assumption) ?_; rotate_left; (focus (intro w hSw; (try dsimp only at hSw); go_simp; try with_reducible rfl)); (try simp only [Act.put, List.setIfInBounds_toArray, List.set_cons_zero, List.set_cons_succ])); (refine wpE_take (i := 8) 37 (v := ?_) (by kernel_rfl) rfl rfl (by decide) (by kernel_rfl) (by kernel_rfl) (fun _ _ _ h => h) (Or.inl ⟨by rfl, ?_⟩) (by assumption) ?_; rotate_left; (focus (intro w hSw; (try dsimp only at hSw); go_simp; try with_reducible rfl)); (try simp only [Act.put, List.setIfInBounds_toArray, List.set_cons_zero, List.set_cons_succ])); (refine wpE_take (i := 9) 38 (v := ?_) (by kernel_rfl) rfl rfl (by decide) (by kernel_rfl) (by kernel_rfl) (fun _ _ _ h => h) (Or.inl ⟨by rfl, ?_⟩) (by assumption) ?_; rotate_left; (focus (intro w hSw; (try dsimp only at hSw); go_simp; try with_reducible rfl)); (try simp only [Act.put, List.setIfInBounds_toArray, List.set_cons_zero, List.set_cons_succ])); (refine wpE_take (i := 10) 39 (v := undef) (by kernel_rfl) rfl rfl (by decide) (by kernel_rfl) (by kernel_rfl) (fun _ _ _ h => h) (Or.inr ⟨by rfl, rfl⟩) (by assumption) ?_; (try simp only [Act.put, List.setIfInBounds_toArray, List.set_cons_zero, List.set_cons_succ])); (refine wpE_take (i := 11) 40 (v := undef) (by kernel_rfl) rfl rfl (by decide) (by kernel_rfl) (by kernel_rfl) (fun _ _ _ h => h) (Or.inr ⟨by rfl, rfl⟩) (by assumption) ?_; (try simp only [Act.put, List.setIfInBounds_toArray, List.set_cons_zero, List.set_cons_succ])); refine wpE_end rfl (by kernel_rfl) (by kernel_rfl) (fun K hK => ?_); go_simp; refine hK.out _ _ ?_; clear hK K hHeld))))
        all_goals
          have HB8 := Lib.hid (HB7.out.alloc HB7.out.size (.cells #[.slice (some ⟨g0, 0, none⟩) 60 64] 22))
          have HP8 := Lib.hid (HP.out.below (below_alloc1 w7 (.cells #[.slice (some ⟨g0, 0, none⟩) 60 64] 22)))
          go_wp2_with fail
          go_round
          · exact ⟨k + 1, gr, _, _, by omega, by simp, rfl, rfl, by omega, Lib.hid (by rw [HGS.out]; omega), Lib.hid (HP8.out.below ((Below.refl _ _).drew)), Lib.hid HB8.out.drew⟩
          · simp [intOf]; omega
      · subst h1
        have qn : decide ((nm : Int) ≤ 1125899906842624) = false := decide_eq_false (by omega)
        go_wp2_with fail
        (go_region_held3 (fun w' => w7.heap.size ≤ w'.heap.size) (first | (simp; done) | (simp; omega)) (first | (go_at_call 75; refine (HN4.out _ (first_below w7 _ (by first | exact .inl rfl | exact .inr ⟨_, rfl⟩))).mono ?_; rintro e w' ⟨rfl, rfl⟩) | (go_at_call 49; refine (HS4.out _ (by rfl)).mono ?_; rintro e w' ⟨rfl, rfl⟩)))
        all_goals
          have HB8 := Lib.hid (HB7.out.alloc HB7.out.size (.cells #[.slice (some ⟨g0, 0, none⟩) 60 64] 22))
          have HP8 := Lib.hid (HP.out.below (below_alloc1 w7 (.cells #[.slice (some ⟨g0, 0, none⟩) 60 64] 22)))
          go_wp2_with fail
          go_round
          · exact ⟨k + 1, gr, _, _, by omega, by simp, rfl, rfl, by omega, Lib.hid (by rw [HGS.out]; omega), Lib.hid (HP8.out.below ((Below.refl _ _).drew)), Lib.hid HB8.out.drew⟩
          · simp [intOf]; omega
    · have p1 : decide ((k : Int) < 16) = false := decide_eq_false (by omega)
      obtain rfl : k = 16 := by omega
      go_wp2_with fail
      go_ret2
      exact ⟨v, gs, by rw [HG.out]; rfl, HR.out, HB.out⟩
end Go.Proofs.Ythbdlfkdemjpoaa
