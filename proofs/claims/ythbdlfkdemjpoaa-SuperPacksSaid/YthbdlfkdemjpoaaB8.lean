/- How a Super lies in memory; what Open finds. No condition. -/
import Derived.Test.YthbdlfkdemjpoaaB7
namespace Go.Proofs.Ythbdlfkdemjpoaa
open Go.RowKit Go.Maps
attribute [local go_sem ↓] Go.wp_at_zero Go.wp_at_succ

/-- What a Super is: the number and the image of the slot that counts, which slot that is, the greatest number, whether it is dead. -/
structure SS where
  snum : Nat
  img : Row
  at_ : Nat
  num : Nat
  dead : Bool
structure SS.Ok (X : SS) : Prop where
  snum : X.snum ≤ 1125899906842624
  img : X.img.length ≤ 814
  at_ : X.at_ ≤ 1
  num : X.num ≤ 1125899906842624
def SS.cells (X : SS) (p : Nat) (A : Option Addr) (c : Nat) : Array Value := #[.int .i64 X.snum, .slice A X.img.length c, .pointer (some ⟨p, 0, none⟩), .int .i64 X.at_, .int .i64 X.num, .bool X.dead]
/-- How a Super lies in block q; its image lies outside of N. -/
structure SMem (w : World) (q p : Nat) (N : Nat → Prop) (X : SS) (A : Option Addr) (c : Nat) : Prop where
  own : w.heap[q]? = some (.cells (X.cells p A c) 102 (0, 0))
  img : Bytes w A X.img
  far : X.img ≠ [] → ∀ b o, A = some ⟨b, o, none⟩ → ¬ N b ∧ b ≠ q
theorem SMem.fix {w w' : World} {q p : Nat} {N : Nat → Prop} {X : SS} {A : Option Addr} {c : Nat} (h : SMem w q p N X A c) (hs : w.heap.size ≤ w'.heap.size) (hq : w'.heap[q]? = w.heap[q]?) (hm : ∀ k, k < w.heap.size → ¬ N k → k ≠ q → w'.heap[k]? = w.heap[k]?) : SMem w' q p N X A c :=
  ⟨hq.trans h.own, h.img.fixN hs (fun hn b o e hl => hm b hl (h.far hn b o e).1 (h.far hn b o e).2), h.far⟩
theorem SMem.below {w w' : World} {q p : Nat} {N : Nat → Prop} {X : SS} {A : Option Addr} {c : Nat} (h : SMem w q p N X A c) (hb : Below w.heap.size w w') : SMem w' q p N X A c :=
  h.fix hb.size (hb.block q (lt_of h.own)) fun k hk _ _ => hb.block k hk
theorem SMem.kept {w w' : World} {q p : Nat} {N S : Nat → Prop} {X : SS} {A : Option Addr} {c : Nat} (h : SMem w q p N X A c) (hk : Kept S w w') (hS : ∀ k, S k → N k) (hq : ¬ S q) : SMem w' q p N X A c :=
  h.fix hk.size (hk.block q (lt_of h.own) hq) fun k hl hn _ => hk.block k hl (fun hs => hn (hS k hs))
theorem SMem.mono {w : World} {q p : Nat} {N N' : Nat → Prop} {X : SS} {A : Option Addr} {c : Nat} (h : SMem w q p N X A c) (hN : ∀ k, k < w.heap.size → N' k → N k) : SMem w q p N' X A c :=
  ⟨h.own, h.img, fun hn b o e => by
    refine ⟨fun hb => ?_, (h.far hn b o e).2⟩
    rcases h.img with h0 | ⟨b', o', e', hl, _⟩
    · exact hn h0
    · have hbb : b' = b := by rw [e'] at e; cases e; rfl
      subst hbb
      exact (h.far hn b' o e).1 (hN b' hl hb)⟩
theorem blk_set {w : World} {g o : Nat} {cs : Array Value} {t : TypeId} {fr : Nat × Nat} (h : w.heap[g]? = some (.cells cs t fr)) (v : Value) : (w.setCell ⟨g, o, none⟩ v).heap[g]? = some (.cells (cs.setIfInBounds o v) t fr) := by
  simp only [World.setCell, Array.getElem?_modify, if_true, h, Option.map_some]
  rfl

theorem setCell_size (w : World) (a : Addr) (v : Value) : (w.setCell a v).heap.size = w.heap.size := by simp [World.setCell]
theorem Bytes.setFar {w : World} {A : Option Addr} {l : Row} (h : Bytes w A l) (q o : Nat) (v : Value) (hq : l ≠ [] → ∀ b o', A = some ⟨b, o', none⟩ → b ≠ q) : Bytes (w.setCell ⟨q, o, none⟩ v) A l :=
  h.fixN (by rw [setCell_size]; exact Nat.le_refl _) fun hn b o' e _ => Below.heap_setCell _ _ _ _ (hq hn b o' e)
theorem SMem.setNum {w : World} {q p : Nat} {N : Nat → Prop} {X : SS} {A : Option Addr} {c : Nat} (h : SMem w q p N X A c) (m : Nat) (z : Int) (hz : z = m) : SMem (w.setCell ⟨q, 4, none⟩ (.int .i64 z)) q p N { X with num := m } A c := by
  subst hz
  exact ⟨(blk_set h.own _).trans rfl, h.img.setFar q 4 _ fun hn b o e => (h.far hn b o e).2, h.far⟩
theorem SMem.setDead {w : World} {q p : Nat} {N : Nat → Prop} {X : SS} {A : Option Addr} {c : Nat} (h : SMem w q p N X A c) : SMem (w.setCell ⟨q, 5, none⟩ (.bool true)) q p N { X with dead := true } A c :=
  ⟨(blk_set h.own _).trans rfl, h.img.setFar q 5 _ fun hn b o e => (h.far hn b o e).2, h.far⟩
theorem SMem.setSlot {w : World} {q p : Nat} {N : Nat → Prop} {X : SS} {A A' : Option Addr} {c c' n k : Nat} {img : Row} (h : SMem w q p N X A c) (hi : Bytes w A' img) (hfar : img ≠ [] → ∀ b o, A' = some ⟨b, o, none⟩ → ¬ N b ∧ b ≠ q) :
    SMem (((w.setCell ⟨q, 0, none⟩ (.int .i64 n)).setCell ⟨q, 1, none⟩ (.slice A' img.length c')).setCell ⟨q, 3, none⟩ (.int .i64 k)) q p N { X with snum := n, img := img, at_ := k } A' c' := by
  have hq : img ≠ [] → ∀ b o', A' = some ⟨b, o', none⟩ → b ≠ q := fun hn b o e => (hfar hn b o e).2
  exact ⟨(blk_set (blk_set (blk_set h.own _) _) _).trans rfl, ((hi.setFar q 0 _ hq).setFar q 1 _ hq).setFar q 3 _ hq, hfar⟩
theorem Rows.setOld {B : Nat} {w : World} {v : Value} {ls : List Row} {gs cs : Nat → Nat} (h : Rows B w v ls gs cs) {q : Nat} (hq : q < B) (o : Nat) (u : Value) : Rows B (w.setCell ⟨q, o, none⟩ u) v ls gs cs := by
  have far : ∀ k, B ≤ k → (w.setCell ⟨q, o, none⟩ u).heap[k]? = w.heap[k]? := fun k hk => Below.heap_setCell _ _ _ _ (by show k ≠ q; omega)
  refine ⟨⟨h.own.1, ?_⟩, fun i hi => ?_, h.apart⟩
  · rcases h.own.2 with h1 | ⟨g, cap, cur, h1, h2, h3, h4⟩
    · exact .inl h1
    · exact .inr ⟨g, cap, cur, h1, h2, (far g h2).trans h3, h4⟩
  · obtain ⟨a1, a2, a3⟩ := h.each i hi
    exact ⟨a1.fix (by rw [setCell_size]; exact Nat.le_refl _) (fun b o' e _ => by cases e; exact far _ a2), a2, by rw [setCell_size]; exact a3⟩
/-! ### Open -/
def openK (D : DS) : Nat → Bool × SS
  | 0 => (false, ⟨0, [], 0, 0, false⟩)
  | k + 1 =>
    let f := (openK D k).1
    let X := { (openK D k).2 with num := max (openK D k).2.num (greatest (D.slot (16 * k) 16)) }
    match wholeOf (D.slot (16 * k) 16) with
    | some (n, img) => if f = false ∨ X.snum < n then (true, { X with snum := n, img := img, at_ := k }) else (f, X)
    | none => (f, X)
theorem wholeOf_some {ls : List Row} {n : Nat} {img : Row} (h : wholeOf ls = some (n, img)) : 1 ≤ n ∧ n ≤ 1125899906842624 ∧ img.length ≤ 814 ∧ packK n img 16 = ls := by
  unfold wholeOf at h
  split at h
  · cases h
  · rename_i h1
    split at h
    · rename_i h2
      simp only [Option.some.injEq, Prod.mk.injEq] at h
      obtain ⟨rfl, rfl⟩ := h
      refine ⟨by omega, by omega, ?_, h2⟩
      have h3 : (imgOf ls).length ≤ sizeOfRows ls := List.length_take_le _ _
      omega
    · cases h
theorem openK_ok (D : DS) : ∀ k, k ≤ 2 → (openK D k).2.Ok
  | 0, _ => ⟨by simp [openK], by simp [openK], by simp [openK], by simp [openK]⟩
  | k + 1, hk => by
    obtain ⟨a1, a2, a3, a4⟩ := openK_ok D k (by omega)
    have hg := greatest_le (D.slot (16 * k) 16)
    have hm : max (openK D k).2.num (greatest (D.slot (16 * k) 16)) ≤ 1125899906842624 := by omega
    unfold openK
    simp only
    split
    · rename_i n img hw
      obtain ⟨b1, b2, b3, _⟩ := wholeOf_some hw
      split
      · exact ⟨b2, b3, by show k ≤ 1; omega, hm⟩
      · exact ⟨a1, a2, a3, hm⟩
    · exact ⟨a1, a2, a3, hm⟩
def OpenOut (p : Nat) (w : World) (D : DS) (e : Ending) (w' : World) : Prop :=
  Below w.heap.size w w' ∧ ((D.lasts.length < 32 ∧ e = .returned (.tuple #[.pointer none, .int .i64 1])) ∨
    (32 ≤ D.lasts.length ∧ (openK D 2).1 = false ∧ e = .returned (.tuple #[.pointer none, .int .i64 2])) ∨
    (32 ≤ D.lasts.length ∧ (openK D 2).1 = true ∧ ∃ q A c, e = .returned (.tuple #[.pointer (some ⟨q, 0, none⟩), .int .i64 0]) ∧ w.heap.size ≤ q ∧ SMem w' q p (fun k => k < w.heap.size) (openK D 2).2 A c))
set_option maxHeartbeats 400000 in
theorem open_nil (w : World) : Calls Try.prog 25 #[.pointer none] w fun e w' => e = .returned (.tuple #[.pointer none, .int .i64 1]) ∧ w = w' := by
  go_enter Try.func25, Try.ntmps25
  go_wp2_with fail
  refine (fits_nil _).mono ?_
  rintro e w' ⟨rfl, rfl⟩
  go_wp2_with fail
  go_ret2
  exact ⟨rfl, rfl⟩
set_option maxRecDepth 100000 in
set_option maxHeartbeats 4000000 in
theorem open_any {B : Nat} (p : Nat) (S : Nat → Prop) (D : DS) (w : World) (h : Dk B w p S D) : Calls Try.prog 25 #[.pointer (some ⟨p, 0, none⟩)] w (OpenOut p w D) := by
  have H := Lib.hid h
  clear h
  by_cases hf : 32 ≤ D.lasts.length
  · have HF := Lib.hid hf
    have hfit := fits_any p S D w H.out true (by simpa using hf)
    clear hf
    go_enter Try.func25, Try.ntmps25
    go_wp2_with fail
    refine hfit.mono ?_
    rintro e w' ⟨rfl, rfl⟩
    clear hfit
    go_wp2_with fail
    obtain ⟨Q, hQ⟩ : ∃ Q, Q = w.heap.size := ⟨_, rfl⟩
    obtain ⟨w0, hw0⟩ : ∃ w0, w0 = w.alloc (.cells #[.int .i64 0, .slice none 0 0, .pointer (some ⟨p, 0, none⟩), .int .i64 0, .int .i64 0, .bool false] 102) := ⟨_, rfl⟩
    have HM0 : Hid (SMem w0 Q p (fun k => k < w.heap.size) (openK D 0).2 none 0) := Lib.hid ⟨by rw [hw0, hQ]; exact heap_alloc_new w _, .inl rfl, fun h => absurd rfl h⟩
    have HB0 : Hid (Below w.heap.size w w0) := Lib.hid (by rw [hw0]; exact below_alloc1 w _)
    have HQ := Lib.hid hQ
    rw [← hw0, ← hQ]
    clear hw0 hQ
    go_loopw [5, 17] (fun f i wr => ∃ (k : Nat) (fb : Bool) (X : SS) (A : Option Addr) (c : Nat), k ≤ 2 ∧ i = .int .i64 k ∧ f = .bool fb ∧ Hid (openK D k = (fb, X)) ∧ Hid (SMem wr Q p (fun k => k < w.heap.size) X A c) ∧ Hid (Below w.heap.size w wr)) (fun _ i _ => 200 - (intOf i).toNat)
    case atStart => exact ⟨0, false, _, none, 0, by omega, rfl, rfl, Lib.hid rfl, HM0, HB0⟩
    case round =>
      obtain ⟨k, fb, X, A, c, hk, rfl, rfl, HK, HM, HB⟩ := hrel
      have HX : Hid X.Ok := Lib.hid (by have := openK_ok D k hk; rw [HK.out] at this; exact this)
      by_cases hlt : k < 2
      · have p1 : decide ((k : Int) < 2) = true := decide_eq_true (by omega)
        go_wp2_with fail
        refine (read_any p S D k wr (H.out.below HB.out) (by omega) HF.out).mono ?_
        rintro e w1 ⟨v, gs, rfl, hR, hb1⟩
        obtain ⟨ls, hls⟩ : ∃ ls, ls = D.slot (16 * k) 16 := ⟨_, rfl⟩
        rw [← hls] at hR ⊢
        obtain ⟨gr, hgr⟩ : ∃ gr, gr = greatest ls := ⟨_, rfl⟩
        rw [← hgr]
        have hgl : gr ≤ 1125899906842624 := by rw [hgr]; exact greatest_le _
        have HM1 := Lib.hid (HM.out.below hb1)
        have HRO := Lib.hid hR; have HB1 := Lib.hid hb1
        have HLS := Lib.hid hls; have HGR := Lib.hid hgr
        have hQl : Q < wr.heap.size := lt_of HM.out.own
        have c4 := cell_of HM1.out.own 4
        have f4 := frozen_of HM1.out.own 4
        simp only [SS.cells, List.getElem?_toArray, List.getElem?_cons_succ, List.getElem?_cons_zero] at c4
        obtain ⟨xn, hxn⟩ : ∃ xn, xn = X.num := ⟨_, rfl⟩
        rw [← hxn] at c4
        have HXN := Lib.hid hxn
        have hxl : xn ≤ 1125899906842624 := by rw [hxn]; exact HX.out.num
        clear hR hb1 hls hgr hxn
        go_wp2_with fail
        have hmx : max (xn : Int) (gr : Int) = ((max xn gr : Nat) : Int) := by omega
        obtain ⟨X1, hX1⟩ : ∃ X1 : SS, X1 = { X with num := max X.num gr } := ⟨_, rfl⟩
        have hM2 := HM1.out.setNum (max xn gr) (max (xn : Int) (gr : Int)) hmx
        rw [HXN.out, ← hX1, ← HXN.out] at hM2
        have hR2 := HRO.out.setOld hQl 4 (.int .i64 (max (xn : Int) (gr : Int)))
        have hB2 : Below w.heap.size w (w1.setCell ⟨Q, 4, none⟩ (.int .i64 (max (xn : Int) (gr : Int)))) := (HB.out.trans (HB1.out.mono HB.out.size)).setCell (by rw [HQ.out]; exact Nat.le_refl _) _
        obtain ⟨w2, hw2⟩ : ∃ w2, w2 = w1.setCell ⟨Q, 4, none⟩ (.int .i64 (max (xn : Int) (gr : Int))) := ⟨_, rfl⟩
        rw [← hw2] at hM2 hR2 hB2 ⊢
        have HM2 := Lib.hid hM2; have HR2 := Lib.hid hR2; have HB2 := Lib.hid hB2; have HX1 := Lib.hid hX1
        have hl64 : ∀ r ∈ ls, r.length = 64 := fun r hr => by
          rw [HLS.out] at hr
          simp only [DS.slot, List.mem_map, List.mem_range] at hr
          obtain ⟨i, hi, rfl⟩ := hr
          exact DS.read_length H.out.ok _ (by have := HF.out; omega)
        have hwh := whole_any v ls gs w2 hR2 (by rw [HLS.out, DS.slot_length]) hl64
        have HWH := hide hwh
        have hQ2 : Q < w2.heap.size := lt_of hM2.own
        clear hM2 hR2 hB2 hX1 hw2 hl64 hwh hmx c4 f4
        refine (Hid.out HWH).mono ?_
        rintro e w3 ⟨hb3, hwo⟩
        have HM3 := Lib.hid (HM2.out.below hb3); have HB3 := Lib.hid (HB2.out.trans (hb3.mono HB2.out.size))
        clear hb3
        have hKS : openK D (k + 1) = match wholeOf ls with
          | some (n, img) => if fb = false ∨ X1.snum < n then (true, { X1 with snum := n, img := img, at_ := k }) else (fb, X1)
          | none => (fb, X1) := by
          show (match wholeOf (D.slot (16 * k) 16) with | some (n, img) => if (openK D k).1 = false ∨ _ < n then _ else _ | none => _) = _
          rw [HK.out, ← HLS.out, HX1.out, HGR.out]
        rcases hwo with ⟨hno, rfl⟩ | ⟨n, img, A', c', hso, rfl, hfb⟩
        · rw [hno] at hKS
          have HKS := Lib.hid hKS
          clear hKS hno
          go_wp2_with fail
          go_quiet (fail)
          go_wp2_with fail
          go_round
          · exact ⟨k + 1, fb, X1, A, c, by omega, by simp, rfl, HKS, Lib.hid ((HM3.out.below (below_alloc1 w3 _)).below (below_drewN (Below.refl _ _) _)), Lib.hid (below_drewN (HB3.out.alloc HB3.out.size _) _)⟩
          · simp [intOf]; omega
        · rw [hso] at hKS
          have hnx := wholeOf_some hso
          obtain ⟨xs, hxs⟩ : ∃ xs, xs = X1.snum := ⟨_, rfl⟩
          have HXS := Lib.hid hxs
          have hFAR : Hid (img ≠ [] → ∀ b o, A' = some ⟨b, o, none⟩ → ¬ b < w.heap.size ∧ b ≠ Q) := Lib.hid fun hn b o e => by
            have := hfb.new hn b o e
            have h1 := HQ.out
            constructor <;> omega
          have HIB := Lib.hid hfb.bytes
          have hnl : n ≤ 1125899906842624 := hnx.2.1
          have hX1x : xs ≤ 1125899906842624 := by rw [hxs, HX1.out]; exact HX.out.snum
          by_cases htk : fb = false ∨ xs < n
          · have HKS : Hid (openK D (k + 1) = (true, { X1 with snum := n, img := img, at_ := k })) := Lib.hid (by rw [hKS]; simp only; rw [if_pos (by rw [← hxs]; exact htk)])
            clear hKS hso hnx hfb hxs
            cases fb with
            | false =>
              go_wp2_with fail
              go_quiet (fail)
              (have hw5m := (HM3.out.below (below_alloc1 w3 (.cells #[.int .i64 n, .slice A' img.length c'] 100))).below (below_drewN (Below.refl _ _) nq); have hw5b := below_drewN (HB3.out.alloc HB3.out.size (.cells #[.int .i64 n, .slice A' img.length c'] 100)) nq; have hw5i := (HIB.out.below (below_alloc1 w3 (.cells #[.int .i64 n, .slice A' img.length c'] 100))).below (below_drewN (Below.refl _ _) nq); have hx5 : ((w3.alloc (.cells #[.int .i64 n, .slice A' img.length c'] 100)).drewN nq).heap[w3.heap.size]? = some (.cells #[.int .i64 n, .slice A' img.length c'] 100 (0, 0)) := (by rw [heap_drewN]; exact heap_alloc_new w3 _); obtain ⟨x0, hx0⟩ : ∃ x0, x0 = w3.heap.size := ⟨_, rfl⟩; rw [← hx0] at hx5; rw [← hx0]; obtain ⟨w5, hw5⟩ : ∃ w5, w5 = (w3.alloc (.cells #[.int .i64 n, .slice A' img.length c'] 100)).drewN nq := ⟨_, rfl⟩; rw [← hw5] at hw5m hw5b hw5i hx5; rw [← hw5]; have HM5 := Lib.hid hw5m; have HB5 := Lib.hid hw5b; have HI5 := Lib.hid hw5i; have c0 := cell_of hw5m.own 0; have c1 := cell_of hw5m.own 1; have c3 := cell_of hw5m.own 3; have f0 := frozen_of hw5m.own 0; have f1 := frozen_of hw5m.own 1; have f3 := frozen_of hw5m.own 3; have y0 := cell_of hx5 0; have y1 := cell_of hx5 1; simp only [SS.cells, List.getElem?_toArray, List.getElem?_cons_succ, List.getElem?_cons_zero] at c0 c1 c3 y0 y1; clear hw5m hw5b hw5i hx5 hw5 hx0; go_wp2_with fail; go_round; (focus (exact ⟨k + 1, true, _, A', c', by omega, by simp, rfl, HKS, Lib.hid (HM5.out.setSlot HI5.out hFAR.out), Lib.hid (((HB5.out.setCell (by rw [HQ.out]; exact Nat.le_refl _) _).setCell (by rw [HQ.out]; exact Nat.le_refl _) _).setCell (by rw [HQ.out]; exact Nat.le_refl _) _)⟩)); (focus (simp [intOf]; omega)))
            | true =>
              have hxn : xs < n := by simpa using htk
              clear htk
              (have c0 : (w3.alloc (.cells #[.int .i64 n, .slice A' img.length c'] 100)).cell? ⟨Q, 0, none⟩ = some (.int .i64 xs) := (by rw [cell_of (HM3.out.below (below_alloc1 w3 _)).own 0, HXS.out]; rfl); have d0 : (w3.alloc (.cells #[.int .i64 n, .slice A' img.length c'] 100)).cell? ⟨w3.heap.size, 0, none⟩ = some (.int .i64 n) := (by rw [cell_of (heap_alloc_new w3 _)]; rfl))
              go_wp2_with fail
              go_quiet (fail)
              clear c0 d0
              (have hw5m := (HM3.out.below (below_alloc1 w3 (.cells #[.int .i64 n, .slice A' img.length c'] 100))).below (below_drewN (Below.refl _ _) nq); have hw5b := below_drewN (HB3.out.alloc HB3.out.size (.cells #[.int .i64 n, .slice A' img.length c'] 100)) nq; have hw5i := (HIB.out.below (below_alloc1 w3 (.cells #[.int .i64 n, .slice A' img.length c'] 100))).below (below_drewN (Below.refl _ _) nq); have hx5 : ((w3.alloc (.cells #[.int .i64 n, .slice A' img.length c'] 100)).drewN nq).heap[w3.heap.size]? = some (.cells #[.int .i64 n, .slice A' img.length c'] 100 (0, 0)) := (by rw [heap_drewN]; exact heap_alloc_new w3 _); obtain ⟨x0, hx0⟩ : ∃ x0, x0 = w3.heap.size := ⟨_, rfl⟩; rw [← hx0] at hx5; rw [← hx0]; obtain ⟨w5, hw5⟩ : ∃ w5, w5 = (w3.alloc (.cells #[.int .i64 n, .slice A' img.length c'] 100)).drewN nq := ⟨_, rfl⟩; rw [← hw5] at hw5m hw5b hw5i hx5; rw [← hw5]; have HM5 := Lib.hid hw5m; have HB5 := Lib.hid hw5b; have HI5 := Lib.hid hw5i; have c0 := cell_of hw5m.own 0; have c1 := cell_of hw5m.own 1; have c3 := cell_of hw5m.own 3; have f0 := frozen_of hw5m.own 0; have f1 := frozen_of hw5m.own 1; have f3 := frozen_of hw5m.own 3; have y0 := cell_of hx5 0; have y1 := cell_of hx5 1; simp only [SS.cells, List.getElem?_toArray, List.getElem?_cons_succ, List.getElem?_cons_zero] at c0 c1 c3 y0 y1; clear hw5m hw5b hw5i hx5 hw5 hx0; go_wp2_with fail; go_round; (focus (exact ⟨k + 1, true, _, A', c', by omega, by simp, rfl, HKS, Lib.hid (HM5.out.setSlot HI5.out hFAR.out), Lib.hid (((HB5.out.setCell (by rw [HQ.out]; exact Nat.le_refl _) _).setCell (by rw [HQ.out]; exact Nat.le_refl _) _).setCell (by rw [HQ.out]; exact Nat.le_refl _) _)⟩)); (focus (simp [intOf]; omega)))
          · have HKS : Hid (openK D (k + 1) = (fb, X1)) := Lib.hid (by rw [hKS]; simp only; rw [if_neg (by rw [← hxs]; exact htk)])
            clear hKS hso hnx hfb hxs
            obtain rfl : fb = true := by cases fb <;> simp_all
            have hxn : ¬ xs < n := by simpa using htk
            clear htk
            (have c0 : (w3.alloc (.cells #[.int .i64 n, .slice A' img.length c'] 100)).cell? ⟨Q, 0, none⟩ = some (.int .i64 xs) := (by rw [cell_of (HM3.out.below (below_alloc1 w3 _)).own 0, HXS.out]; rfl); have d0 : (w3.alloc (.cells #[.int .i64 n, .slice A' img.length c'] 100)).cell? ⟨w3.heap.size, 0, none⟩ = some (.int .i64 n) := (by rw [cell_of (heap_alloc_new w3 _)]; rfl))
            go_wp2_with fail
            go_quiet (fail)
            clear c0 d0
            go_wp2_with fail
            go_round
            · exact ⟨k + 1, true, X1, A, c, by omega, by simp, rfl, HKS, Lib.hid ((HM3.out.below (below_alloc1 w3 _)).below (below_drewN (Below.refl _ _) _)), Lib.hid (below_drewN (HB3.out.alloc HB3.out.size _) _)⟩
            · simp [intOf]; omega
      · have p1 : decide ((k : Int) < 2) = false := decide_eq_false (by omega)
        obtain rfl : k = 2 := by omega
        cases fb with
        | false =>
          go_wp2_with fail
          go_ret2
          exact ⟨HB.out, .inr (.inl ⟨HF.out, by rw [HK.out], rfl⟩)⟩
        | true =>
          go_wp2_with fail
          go_ret2
          exact ⟨HB.out, .inr (.inr ⟨HF.out, by rw [HK.out], Q, A, c, rfl, by rw [HQ.out]; exact Nat.le_refl _, by rw [HK.out]; exact HM.out⟩)⟩
  · have hfit := fits_any p S D w H.out false (by simpa using hf)
    have HF := Lib.hid hf
    clear hf
    go_enter Try.func25, Try.ntmps25
    go_wp2_with fail
    refine hfit.mono ?_
    rintro e w' ⟨rfl, rfl⟩
    go_wp2_with fail
    go_ret2
    exact ⟨Below.refl _ _, .inl ⟨by have := HF.out; omega, rfl⟩⟩
end Go.Proofs.Ythbdlfkdemjpoaa
