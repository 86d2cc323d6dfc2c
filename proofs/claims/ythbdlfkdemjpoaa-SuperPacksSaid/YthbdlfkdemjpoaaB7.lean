/- What super's whole tells. No condition. -/
import Derived.Test.YthbdlfkdemjpoaaB6
namespace Go.Proofs.Ythbdlfkdemjpoaa
open Go.RowKit Go.Maps
attribute [local go_sem ↓] Go.wp_at_zero Go.wp_at_succ

def midR (b : Row) : Row := (b.drop 9).take 51
def allK (ls : List Row) (k : Nat) : Row := ((ls.take k).map midR).flatten
def imgOf (ls : List Row) : Row := ((allK ls 16).drop 2).take (numB ((allK ls 16).take 2))
def numOf (ls : List Row) : Nat := numB ((ls.getD 0 []).take 8)
def sizeOfRows (ls : List Row) : Nat := numB ((allK ls 16).take 2)
/-- What the sectors of a slot hold. -/
def wholeOf (ls : List Row) : Option (Nat × Row) :=
  if 1125899906842624 < numOf ls ∨ 814 < sizeOfRows ls ∨ numOf ls < 1 then none else if packK (numOf ls) (imgOf ls) 16 = ls then some (numOf ls, imgOf ls) else none
theorem allK_succ {ls : List Row} {k : Nat} (hk : k < ls.length) : allK ls (k + 1) = allK ls k ++ midR ls[k] := by
  unfold allK
  rw [List.take_succ_eq_append_getElem hk]
  simp only [List.map_append, List.flatten_append, List.map_cons, List.map_nil, List.flatten_cons, List.flatten_nil, List.append_nil]
theorem midR_length {b : Row} (h : b.length = 64) : (midR b).length = 51 := by simp [midR, h]
theorem allK_length {ls : List Row} (h : ∀ r ∈ ls, r.length = 64) : ∀ k, k ≤ ls.length → (allK ls k).length = 51 * k
  | 0, _ => by simp [allK]
  | k + 1, hk => by
    rw [allK_succ (by omega), List.length_append, allK_length h k (by omega), midR_length (h _ (List.getElem_mem _))]
    omega
def WholeOut (w : World) (r : Option (Nat × Row)) (e : Ending) (w' : World) : Prop :=
  Below w.heap.size w w' ∧ ((r = none ∧ e = .returned (.tuple #[.agg #[.int .i64 0, .slice none 0 0], .bool false])) ∨
    (∃ (n : Nat) (img : Row) (A : Option Addr) (c : Nat), r = some (n, img) ∧ e = .returned (.tuple #[.agg #[.int .i64 n, .slice A img.length c], .bool true]) ∧ FB w.heap.size w' A img))
theorem secV_append (a b : Row) : secV (a ++ b) = secV a ++ secV b := by simp [secV]
theorem infoByte_parts : ∃ i0, Try.prog.info? 5 = some i0 ∧ ∃ z, i0.zero = some z ∧ i0.size = 1 ∧ i0.bytes = 1 ∧ z.cells.size = 1 := by
  have := Try.infoByte
  cases h : Try.prog.info? 5 with
  | none => rw [h] at this; cases this
  | some i =>
    rw [h] at this
    simp only [Option.map_some, Option.some.injEq, Prod.mk.injEq, Option.map_eq_some_iff] at this
    obtain ⟨⟨z, h1, h2⟩, h3, h4⟩ := this
    exact ⟨i, rfl, z, h1, h3, h4, by rw [h2]; rfl⟩
theorem bytes_cells {w : World} {b o : Nat} {l : Row} (h : Bytes w (some ⟨b, o, none⟩) l) : ∀ j u, (secV l)[j]? = some u → w.cell? ((⟨b, o, none⟩ : Addr).add j) = some u := by
  intro j u hu
  rcases h with h | ⟨b', o', e, _, hc⟩
  · rw [h] at hu; simp [secV] at hu
  · cases e; rw [add0]; exact hc j u hu

theorem quietL {P : Program} {f : FuncId} {args : Array Value} {w : World} {n : Nat} {v : Value}
    (h : Calls P f args (w.drewN n) fun e w' => e = .returned v ∧ w.drewN n = w') : Calls P f args (w.drewN n) fun e w'' => e = .returned v ∧ ∃ m, w'' = w.drewN m :=
  h.mono fun _ _ ⟨he, hm⟩ => ⟨he, n, hm.symm⟩
theorem whole_ret (tmps : Array Value) (R0 : Nat) (a : Int) (A : Option Addr) (n c : Nat) (x : Bool) (W : World) (h2 : tmps[2]? = some (.pointer (some ⟨R0, 0, none⟩))) (h3 : tmps[3]? = some (.bool x)) (hW : W.heap[R0]? = some (.cells #[.int .i64 a, .slice A n c] 100 (0, 0))) :
    (results Try.f57 tmps).run Try.prog W = .ok (.tuple #[.agg #[.int .i64 a, .slice A n c], .bool x]) W := by
  have e0 := cell_of hW 0
  have e1 := cell_of hW 1
  simp only [List.getElem?_toArray, List.getElem?_cons_succ, List.getElem?_cons_zero] at e0 e1
  simp [results, Try.results57, go_sem, h2, h3, e0, e1]
theorem slot_set {w : World} {R0 : Nat} {u1 u2 : Value} {t : TypeId} (h : w.heap[R0]? = some (.cells #[u1, u2] t (0, 0))) (a b : Value) : ((w.setCell ⟨R0, 0, none⟩ a).setCell ⟨R0, 1, none⟩ b).heap[R0]? = some (.cells #[a, b] t (0, 0)) := by
  have h1 : (w.setCell ⟨R0, 0, none⟩ a).heap[R0]? = some (.cells #[a, u2] t (0, 0)) := by
    simp only [World.setCell, Array.getElem?_modify, if_true, h, Option.map_some]; rfl
  simp only [World.setCell, Array.getElem?_modify, if_true] at h1 ⊢
  rw [h1]; rfl
theorem slot_below {B : Nat} {a w : World} {R0 : Nat} (h : Below B a w) (hR : B ≤ R0) (u v : Value) : Below B a ((w.setCell ⟨R0, 0, none⟩ u).setCell ⟨R0, 1, none⟩ v) := (h.setCell (p := ⟨R0, 0, none⟩) hR _).setCell (p := ⟨R0, 1, none⟩) hR _
set_option maxRecDepth 100000 in
set_option maxHeartbeats 4000000 in
theorem whole_any {B : Nat} (v : Value) (ls : List Row) (gs : Nat → Nat) (w : World) (h : Rows B w v ls gs (fun _ => 64)) (hl : ls.length = 16) (h64 : ∀ r ∈ ls, r.length = 64) :
    Calls Try.prog 57 #[v] w (WholeOut w (wholeOf ls)) := by
  obtain ⟨g, cap, rfl, hBg, hgl, hcells⟩ := h.get (by omega)
  have hrow : ∀ i, i < 16 → w.cell? ⟨g, i, none⟩ = some (.slice (some ⟨gs i, 0, none⟩) 64 64) ∧ Bytes w (some ⟨gs i, 0, none⟩) (ls.getD i []) := fun i hi => by
    have e : ls.getD i [] = ls[i]'(by omega) := by simp [List.getD_eq_getElem?_getD, show i < ls.length by omega]
    refine ⟨?_, (h.each i (by omega)).1⟩
    rw [hcells i (by omega), e, h64 _ (List.getElem_mem _)]; rfl
  have HROW := Lib.hid hrow; have HL := Lib.hid hl; have H64 := Lib.hid h64
  obtain ⟨i0, hi0, z0, hz0, hz1, hz2, hz3⟩ := infoByte_parts
  have HI0 := Lib.hid hi0; have HZ0 := Lib.hid hz0; have HZ1 := Lib.hid hz1; have HZ2 := Lib.hid hz2; have HZ3 := Lib.hid hz3
  rw [hl]
  clear h hcells hrow h64 hi0 hz0 hz1 hz2 hz3 hl
  go_enter Try.func57, Try.ntmps57
  go_wp2_with fail
  obtain ⟨R0, hR0⟩ : ∃ R, R = w.heap.size := ⟨_, rfl⟩
  obtain ⟨w0, hw0⟩ : ∃ w0, w0 = w.alloc (.cells #[.int .i64 0, .slice none 0 0] 100) := ⟨_, rfl⟩
  have HR0 : Hid (w0.heap[R0]? = some (.cells #[.int .i64 0, .slice none 0 0] 100 (0, 0))) := Lib.hid (by rw [hw0, hR0]; exact heap_alloc_new w _)
  have HW0 : Hid (Below w.heap.size w w0) := Lib.hid (by rw [hw0]; exact below_alloc1 w _)
  have HR0E := Lib.hid hR0; have hR0lt : R0 < w0.heap.size := lt_of HR0.out
  rw [← hw0, ← hR0]
  clear hw0 hR0
  go_loopw [4, 15] (fun v i wr => ∃ (k : Nat) (va : Value), k ≤ 16 ∧ i = .int .i64 k ∧ va = v ∧ Hid (wr.ownsRow w0.heap.size 5 1 va (51 * k) (secV (allK ls k))) ∧ Hid (Below w0.heap.size w0 wr)) (fun _ i _ => 200 - (intOf i).toNat)
  case atStart => exact ⟨0, _, by omega, rfl, rfl, Lib.hid (World.ownsRow_nil _ _ _ _), Lib.hid (Below.refl _ _)⟩
  case round =>
    obtain ⟨k, va, hk, rfl, rfl, HO, HB⟩ := hrel
    have HBW : Hid (Below w.heap.size w wr) := Lib.hid (HW0.out.trans (HB.out.mono HW0.out.size))
    by_cases hlt : k < 16
    · have p1 : decide ((k : Int) < 16) = true := decide_eq_true (by omega)
      have q2 : (k : Int) < 16 := by omega
      have hc : wr.cell? ⟨g, k, none⟩ = some (.slice (some ⟨gs k, 0, none⟩) 64 64) := (HBW.out.cell (p := ⟨g, k, none⟩) hgl).trans (HROW.out k hlt).1
      obtain ⟨r, hr⟩ : ∃ r, r = ls.getD k [] := ⟨_, rfl⟩
      have hre : ls[k]'(by rw [HL.out]; exact hlt) = r := by rw [hr]; simp [List.getD_eq_getElem?_getD, show k < ls.length by rw [HL.out]; exact hlt]
      have HR64 : Hid (r.length = 64) := Lib.hid (by rw [← hre]; exact H64.out _ (List.getElem_mem _))
      have HAS : Hid (allK ls (k + 1) = allK ls k ++ midR r) := Lib.hid (by rw [allK_succ (by rw [HL.out]; exact hlt), hre])
      have hbm : Bytes wr (some ⟨gs k, 9, none⟩) (midR r) := by
        have := bytes_sub ((HROW.out k hlt).2.below HBW.out) 9 51
        rw [← hr, Nat.zero_add] at this
        exact this
      have HBM := Lib.hid (bytes_cells hbm)
      have HML : Hid ((secV (midR r)).length = 51 * 1) := Lib.hid (by rw [secV_length, midR_length HR64.out])
      clear hr hre hbm
      go_wp2_with ((with_reducible refine gate_op (.call { callee := .builtin .append, args := #[.tmp 19, .tmp 21], argTypes := #[22, 22] }) rfl ?_); refine wpList_append_lies _ rfl (.tmp 19) (.tmp 21) 22 rfl w0.heap.size 5 i0 z0 1 1 Try.underlying22 HI0.out HZ0.out HZ1.out HZ2.out HZ3.out (by omega) va (51 * k) _ rfl HO.out ⟨gs k, 9, none⟩ 51 55 (secV (midR r)) rfl HML.out HBM.out (fun v hv => secV_one hv) (by omega) (by unfold maxLen; omega) (by omega) HB.out.size wr.heap.size rfl ?_; intro ga cp w7 hown1 hgrow hat hlt1)
      have hb7 : Below w0.heap.size w0 w7 := HB.out.grown hgrow HB.out.size (fun j hj => (HO.out.lt j hj).1)
      rw [← secV_append, ← HAS.out] at hown1
      have HO7 := Lib.hid hown1; have HB7 := Lib.hid hb7
      clear hown1 hgrow hat hlt1 hb7
      go_wp2_with fail
      go_round
      · exact ⟨k + 1, _, by omega, by simp, rfl, HO7, HB7⟩
      · simp [intOf]; omega
    · have p1 : decide ((k : Int) < 16) = false := decide_eq_false (by omega)
      obtain rfl : k = 16 := by omega
      obtain ⟨ga, ca, rfl, hge, hga, hca, HAL⟩ : ∃ ga ca, va = .slice (some ⟨ga, 0, none⟩) 816 ca ∧ w0.heap.size ≤ ga ∧ ga < wr.heap.size ∧ (816 : Int) ≤ (ca : Int) ∧ Hid (Bytes wr (some ⟨ga, 0, none⟩) (allK ls 16)) := by
        rcases HO.out.2 with ⟨_, h0⟩ | ⟨ga, ca, cur, h1, h2, h3, h4, h5, h6, h7⟩
        · omega
        · refine ⟨ga, ca, by rw [h1], h2, lt_of h3, by omega, Lib.hid (.inr ⟨ga, 0, rfl, lt_of h3, fun j v hv => ?_⟩)⟩
          have hj : j < 816 := by
            have := (List.getElem?_eq_some_iff.1 hv).1
            rw [secV_length, allK_length H64.out 16 (by rw [HL.out]; omega)] at this
            omega
          rw [Nat.zero_add, cell_of h3, ← Array.getElem?_toList, ← hv, ← h7, List.getElem?_take, if_pos (by omega)]
      obtain ⟨r0, hr0⟩ : ∃ r, r = ls.getD 0 [] := ⟨_, rfl⟩
      have hr064 : r0.length = 64 := by
        have e : ls.getD 0 [] = ls[0]'(by rw [HL.out]; omega) := by simp [List.getD_eq_getElem?_getD, show 0 < ls.length by rw [HL.out]; omega]
        rw [hr0, e]; exact H64.out _ (List.getElem_mem _)
      have hc0 : wr.cell? ⟨g, 0, none⟩ = some (.slice (some ⟨gs 0, 0, none⟩) 64 64) := (HBW.out.cell (p := ⟨g, 0, none⟩) hgl).trans (HROW.out 0 (by omega)).1
      obtain ⟨nm, hnm⟩ : ∃ n, n = numOf ls := ⟨_, rfl⟩
      obtain ⟨sz, hsz⟩ : ∃ n, n = sizeOfRows ls := ⟨_, rfl⟩
      have HN8 : Hid (∀ n, Calls Try.prog 75 #[.slice (some ⟨gs 0, 0, none⟩) 8 64] (wr.drewN n) fun e w' => e = .returned (.int .u64 nm) ∧ wr.drewN n = w') := hide fun n => by
        have := number_any (some ⟨gs 0, 0, none⟩) 64 (r0.take 8) (wr.drewN n) (by have h1 := bytes_sub ((HROW.out 0 (by omega)).2.below (below_drewN HBW.out n)) 0 8; rw [← hr0, List.drop_zero, Nat.zero_add] at h1; exact h1) (by rw [List.length_take]; omega)
        rw [show (r0.take 8).length = 8 by rw [List.length_take, hr064]; rfl] at this
        rw [hnm]; unfold numOf; rw [← hr0]; exact this
      have hal : (allK ls 16).length = 816 := allK_length H64.out 16 (by rw [HL.out]; omega)
      have HN2 : Hid (∀ n, Calls Try.prog 75 #[.slice (some ⟨ga, 0, none⟩) 2 ca] (wr.drewN n) fun e w' => e = .returned (.int .u64 sz) ∧ wr.drewN n = w') := hide fun n => by
        have := number_any (some ⟨ga, 0, none⟩) ca ((allK ls 16).take 2) (wr.drewN n) (by have h1 := bytes_sub (HAL.out.below (below_drewN (Below.refl _ _) n)) 0 2; rw [List.drop_zero, Nat.zero_add] at h1; exact h1) (by rw [List.length_take]; omega)
        rw [show ((allK ls 16).take 2).length = 2 by rw [List.length_take, hal]; rfl] at this
        rw [hsz]; exact this
      have hszl : sz < 65536 := by
        have := numB_lt ((allK ls 16).take 2)
        rw [show ((allK ls 16).take 2).length = 2 by rw [List.length_take, hal]; rfl] at this
        rw [hsz]; unfold sizeOfRows; omega
      have hnml : nm < 18446744073709551616 := by
        have := numB_lt (r0.take 8)
        rw [show (r0.take 8).length = 8 by rw [List.length_take, hr064]; rfl] at this
        rw [hnm]; unfold numOf; rw [← hr0]; omega
      have kws : IntKind.i64.wrap (sz : Int) = (sz : Int) := IntWalk.i64_in _ (by omega)
      have HNM := Lib.hid hnm; have HSZ := Lib.hid hsz; have HALN := Lib.hid hal
      clear hr0 hr064 hnm hsz hal
      have hrb : wr.heap[R0]? = some (.cells #[.int .i64 0, .slice none 0 0] 100 (0, 0)) := (HB.out.block R0 (lt_of HR0.out)).trans HR0.out
      have HRB := Lib.hid hrb
      have hbu : ∀ W : World, (Instr.build 100 #[]).run Try.prog W = .ok (.agg #[.int .i64 0, .slice none 0 0]) W := fun W => run_build W _ _ _ (by kernel_rfl)
      clear hrb
      go_wp2_with fail
      go_quiet ((go_at_call 75; first | (with_reducible exact quietL (HN8.out _)) | (with_reducible exact quietL (HN2.out _))))
      have HRB2 : Hid ((wr.drewN nq).heap[R0]? = some (.cells #[.int .i64 0, .slice none 0 0] 100 (0, 0))) := Lib.hid (by rw [heap_drewN]; exact HRB.out)
      have HBW2 : Hid (Below w.heap.size w (wr.drewN nq)) := Lib.hid (below_drewN HBW.out nq)
      have HAL2 : Hid (Bytes (wr.drewN nq) (some ⟨ga, 0, none⟩) (allK ls 16)) := Lib.hid (HAL.out.below (below_drewN (Below.refl _ _) nq))
      obtain ⟨w1, hw1⟩ : ∃ w1, w1 = wr.drewN nq := ⟨_, rfl⟩
      have hga1 : ga < w1.heap.size := by rw [hw1]; exact hga
      rw [← hw1] at HRB2 HBW2 HAL2 ⊢
      clear hw1 HN8 HN2 HRB HBW HAL HB HO hc0 kws HR0
      have e0 := cell_of HRB2.out 0
      have e1 := cell_of HRB2.out 1
      have f0 := frozen_of HRB2.out 0
      have f1 := frozen_of HRB2.out 1
      simp only [List.getElem?_toArray, List.getElem?_cons_succ, List.getElem?_cons_zero] at e0 e1
      by_cases hb1 : 1125899906842624 < nm
      · have p2 : decide ((1125899906842624 : Int) < (nm : Int)) = true := decide_eq_true (by omega)
        have HW : Hid (wholeOf ls = none) := Lib.hid (by unfold wholeOf; rw [if_pos (.inl (by rw [← HNM.out]; exact hb1))])
        (go_wp2_with fail; exact bodyPost_ret (v := .tuple #[.agg #[.int .i64 0, .slice none 0 0], .bool false]) (whole_ret _ R0 0 none 0 0 false _ rfl rfl (slot_set HRB2.out _ _)) rfl ⟨slot_below HBW2.out (by rw [HR0E.out]; exact Nat.le_refl _) _ _, .inl ⟨HW.out, rfl⟩⟩)
      · have p2 : decide ((1125899906842624 : Int) < (nm : Int)) = false := decide_eq_false (by omega)
        by_cases hb2 : 814 < sz
        · have p3 : decide ((814 : Int) < (sz : Int)) = true := decide_eq_true (by omega)
          have HW : Hid (wholeOf ls = none) := Lib.hid (by unfold wholeOf; rw [if_pos (.inr (.inl (by rw [← HSZ.out]; exact hb2)))])
          (go_wp2_with fail; exact bodyPost_ret (v := .tuple #[.agg #[.int .i64 0, .slice none 0 0], .bool false]) (whole_ret _ R0 0 none 0 0 false _ rfl rfl (slot_set HRB2.out _ _)) rfl ⟨slot_below HBW2.out (by rw [HR0E.out]; exact Nat.le_refl _) _ _, .inl ⟨HW.out, rfl⟩⟩)
        · have p3 : decide ((814 : Int) < (sz : Int)) = false := decide_eq_false (by omega)
          have hq1 : (2 : Int) + (sz : Int) ≤ (ca : Int) := by omega
          have kwn : IntKind.i64.wrap (nm : Int) = (nm : Int) := IntWalk.i64_in _ (by omega)
          go_wp2_with fail
          obtain ⟨S0, hS0⟩ : ∃ S0, S0 = w1.heap.size := ⟨_, rfl⟩
          obtain ⟨w2, hw2⟩ : ∃ w2, w2 = w1.alloc (.cells #[.int .i64 nm, .slice (some ⟨ga, 2, none⟩) sz (ca - 2)] 100) := ⟨_, rfl⟩
          have HS0 : Hid (w2.heap[S0]? = some (.cells #[.int .i64 nm, .slice (some ⟨ga, 2, none⟩) sz (ca - 2)] 100 (0, 0))) := Lib.hid (by rw [hw2, hS0]; exact heap_alloc_new w1 _)
          have hb12 : Below w1.heap.size w1 w2 := by rw [hw2]; exact below_alloc1 w1 _
          have HR2 : Hid (w2.heap[R0]? = some (.cells #[.int .i64 0, .slice none 0 0] 100 (0, 0))) := Lib.hid ((hb12.block R0 (lt_of HRB2.out)).trans HRB2.out)
          have HBW3 : Hid (Below w.heap.size w w2) := Lib.hid (HBW2.out.trans (hb12.mono HBW2.out.size))
          obtain ⟨img, himg⟩ : ∃ i, i = imgOf ls := ⟨_, rfl⟩
          have hil : img.length = sz := by
            rw [himg]; unfold imgOf
            rw [List.length_take, List.length_drop, HALN.out]
            have : numB ((allK ls 16).take 2) = sz := HSZ.out.symm
            rw [this]; omega
          have HIMG : Hid (Bytes w2 (some ⟨ga, 2, none⟩) img) := Lib.hid (by
            have h1 := bytes_sub (HAL2.out.below hb12) 2 sz
            have e : ((allK ls 16).drop 2).take sz = img := by rw [himg, HSZ.out]; rfl
            rw [e, Nat.zero_add] at h1; exact h1)
          have HIL := Lib.hid hil; have HII := Lib.hid himg
          rw [← hw2, ← hS0]
          clear hw2 hS0 e0 e1 f0 f1 hb12 hil himg HRB2 HBW2 HAL2 kwn hq1
          have e0 := cell_of HR2.out 0
          have e1 := cell_of HR2.out 1
          have f0 := frozen_of HR2.out 0
          have f1 := frozen_of HR2.out 1
          simp only [List.getElem?_toArray, List.getElem?_cons_succ, List.getElem?_cons_zero] at e0 e1
          by_cases hb3 : nm < 1
          · have HW : Hid (wholeOf ls = none) := Lib.hid (by unfold wholeOf; rw [if_pos (.inr (.inr (by rw [← HNM.out]; exact hb3)))])
            have hpb := pack_bad nm (some ⟨ga, 2, none⟩) img (ca - 2) w2 (.inl (by omega)) (by rw [HIL.out]; omega)
            rw [HIL.out] at hpb
            refine hpb.mono ?_
            rintro e w3 ⟨rfl, rfl⟩
            clear hpb
            (go_wp2_with fail; exact bodyPost_ret (v := .tuple #[.agg #[.int .i64 0, .slice none 0 0], .bool false]) (whole_ret _ R0 0 none 0 0 false _ rfl rfl (slot_set HR2.out _ _)) rfl ⟨slot_below HBW3.out (by rw [HR0E.out]; exact Nat.le_refl _) _ _, .inl ⟨HW.out, rfl⟩⟩)
          · have hpk := pack_ok nm (some ⟨ga, 2, none⟩) img (ca - 2) w2 HIMG.out (by omega) (by omega) (by rw [HIL.out]; omega)
            rw [HIL.out] at hpk
            refine hpk.mono ?_
            rintro e w3 ⟨v, gp, cp, rfl, hR, hb⟩
            obtain ⟨g3, cap3, rfl, hg3, hg3l, hcells⟩ := hR.get (by rw [packK_length]; omega)
            obtain ⟨PK, hPK⟩ : ∃ PK, PK = packK nm img 16 := ⟨_, rfl⟩
            have HPL : Hid (PK.length = 16) := Lib.hid (by rw [hPK, packK_length])
            have HP64 : Hid (∀ i, i < 16 → (PK.getD i []).length = 64) := Lib.hid fun i hi => by
              rw [hPK]
              simp only [packK, List.getD_eq_getElem?_getD, List.getElem?_map, List.getElem?_range hi, Option.map_some, Option.getD_some]
              exact packRow_length (by rw [HIL.out]; omega) hi
            have HPR : Hid (∀ i, i < 16 → w3.cell? ⟨g3, i, none⟩ = some (.slice (some ⟨gp i, 0, none⟩) 64 (cp i)) ∧ Bytes w3 (some ⟨gp i, 0, none⟩) (PK.getD i [])) := Lib.hid fun i hi => by
              have h1 := hcells i (by rw [packK_length]; exact hi)
              have h2 := (hR.each i (by rw [packK_length]; exact hi)).1
              rw [← hPK] at h1 h2
              rw [HP64.out i hi] at h1
              exact ⟨h1, h2⟩
            have HPK := Lib.hid hPK
            rw [packK_length]
            have HR3 : Hid (w3.heap[R0]? = some (.cells #[.int .i64 0, .slice none 0 0] 100 (0, 0))) := Lib.hid ((hb.block R0 (lt_of HR2.out)).trans HR2.out)
            have HS3 : Hid (w3.heap[S0]? = some (.cells #[.int .i64 nm, .slice (some ⟨ga, 2, none⟩) sz (ca - 2)] 100 (0, 0))) := Lib.hid ((hb.block S0 (lt_of HS0.out)).trans HS0.out)
            have HI3 : Hid (Bytes w3 (some ⟨ga, 2, none⟩) img) := Lib.hid (HIMG.out.below hb)
            have HBW4 : Hid (Below w.heap.size w w3) := Lib.hid (HBW3.out.trans (hb.mono HBW3.out.size))
            have HGA : Hid (w.heap.size ≤ ga) := Lib.hid (Nat.le_trans HW0.out.size hge)
            clear hpk hR hb hcells hPK e0 e1 f0 f1 HR2 HS0 HIMG HBW3
            have e0 := cell_of HR3.out 0
            have e1 := cell_of HR3.out 1
            have f0 := frozen_of HR3.out 0
            have f1 := frozen_of HR3.out 1
            have s0 := cell_of HS3.out 0
            have s1 := cell_of HS3.out 1
            simp only [List.getElem?_toArray, List.getElem?_cons_succ, List.getElem?_cons_zero] at e0 e1 s0 s1
            go_wp2_with fail
            go_loop [58] (fun i => ∃ k : Nat, k ≤ 16 ∧ i = .int .i64 k ∧ Hid (∀ j, j < k → PK.getD j [] = ls.getD j [])) (fun i => 200 - (intOf i).toNat)
            case atStart => exact ⟨0, by omega, rfl, Lib.hid (fun j hj => by omega)⟩
            case round =>
              obtain ⟨k, hk, rfl, HE⟩ := hrel
              by_cases hlt : k < 16
              · have p1 : decide ((k : Int) < 16) = true := decide_eq_true (by omega)
                have q2 : (k : Int) < 16 := by omega
                obtain ⟨x1, x2⟩ := HPR.out k hlt
                have y1 : w3.cell? ⟨g, k, none⟩ = some (.slice (some ⟨gs k, 0, none⟩) 64 64) := (HBW4.out.cell (p := ⟨g, k, none⟩) hgl).trans (HROW.out k hlt).1
                have y2 := (HROW.out k hlt).2.below HBW4.out
                have l1 := HP64.out k hlt
                have l2 : (ls.getD k []).length = 64 := by
                  have e : ls.getD k [] = ls[k]'(by rw [HL.out]; exact hlt) := by simp [List.getD_eq_getElem?_getD, show k < ls.length by rw [HL.out]; exact hlt]
                  rw [e]; exact H64.out _ (List.getElem_mem _)
                have heq := equal_bytes (some ⟨gp k, 0, none⟩) (some ⟨gs k, 0, none⟩) (cp k) 64 (PK.getD k []) (ls.getD k []) w3 x2 y2
                rw [l1, l2] at heq
                obtain ⟨eb, heb⟩ : ∃ b, b = (PK.getD k [] == ls.getD k []) := ⟨_, rfl⟩
                rw [← heb] at heq
                have HEQ := hide heq; have HEB := Lib.hid heb
                clear x2 y2 l1 l2 heq heb
                cases eb with
                | true =>
                  go_wp2_with fail
                  refine (Hid.out HEQ).mono ?_
                  rintro e w' ⟨rfl, rfl⟩
                  go_wp2_with fail
                  go_round
                  · exact ⟨k + 1, by omega, by simp, Lib.hid (fun j hj => by
                      by_cases h : j = k
                      · subst h; exact beq_iff_eq.1 HEB.out.symm
                      · exact HE.out j (by omega))⟩
                  · simp [intOf]; omega
                | false =>
                  have HW : Hid (wholeOf ls = none) := Lib.hid (by
                    unfold wholeOf
                    rw [if_neg (by rw [← HNM.out, ← HSZ.out]; omega), if_neg]
                    intro h
                    rw [← HNM.out, ← HII.out, ← HPK.out] at h
                    have := HEB.out
                    rw [h] at this; simp at this)
                  go_wp2_with fail
                  refine (Hid.out HEQ).mono ?_
                  rintro e w' ⟨rfl, rfl⟩
                  (go_wp2_with fail; exact bodyPost_ret (v := .tuple #[.agg #[.int .i64 0, .slice none 0 0], .bool false]) (whole_ret _ R0 0 none 0 0 false _ rfl rfl (slot_set HR3.out _ _)) rfl ⟨slot_below HBW4.out (by rw [HR0E.out]; exact Nat.le_refl _) _ _, .inl ⟨HW.out, rfl⟩⟩)
              · have p1 : decide ((k : Int) < 16) = false := decide_eq_false (by omega)
                obtain rfl : k = 16 := by omega
                have HW : Hid (wholeOf ls = some (nm, img)) := Lib.hid (by
                  unfold wholeOf
                  rw [if_neg (by rw [← HNM.out, ← HSZ.out]; omega), ← HNM.out, ← HII.out, ← HPK.out, if_pos]
                  apply List.ext_getElem (by rw [HPL.out, HL.out])
                  intro i h1 h2
                  have := HE.out i (by rw [HPL.out] at h1; exact h1)
                  simp only [List.getD_eq_getElem?_getD, List.getElem?_eq_getElem h1, List.getElem?_eq_getElem h2, Option.getD_some] at this
                  exact this)
                go_wp2_with fail
                refine bodyPost_ret (v := .tuple #[.agg #[.int .i64 nm, .slice (some ⟨ga, 2, none⟩) sz (ca - 2)], .bool true]) (whole_ret _ R0 nm (some ⟨ga, 2, none⟩) sz (ca - 2) true _ rfl rfl (slot_set HR3.out _ _)) rfl ⟨slot_below HBW4.out (by rw [HR0E.out]; exact Nat.le_refl _) _ _, .inr ⟨nm, img, some ⟨ga, 2, none⟩, ca - 2, HW.out, by rw [HIL.out], ?_, fun _ b o e => by cases e; exact HGA.out⟩⟩
                refine HI3.out.fix (by simp [World.setCell]) (fun b o e _ => ?_)
                cases e
                have hne : ga ≠ R0 := by omega
                rw [Below.heap_setCell _ _ _ _ hne, Below.heap_setCell _ _ _ _ hne]
end Go.Proofs.Ythbdlfkdemjpoaa
