/- The walk of the law SectorFuse: it returns true for every input. No condition. -/
import Derived.Test.YthbdlfkdemjpoaaS11
import Derived.Test.YthbdlfkdemjpoaaL2
import Derived.BigQuiet
import Derived.StillTailTactics
namespace Go.Proofs.Ythbdlfkdemjpoaa
open Go.RowKit Go.Maps

set_option maxRecDepth 100000 in
set_option maxHeartbeats 2000000 in
theorem fuse_out (n : Int) (A : Option Addr) (l : List AAct) (c : Nat) (w : World) (hA : Acts w A l) (hx : l.length ≤ maxLen) (hok : ∀ x ∈ l, x.Ok) (h : longA l = true ∨ n < 0) :
    Calls Try.prog 12 #[.int .i64 n, .slice A l.length c] w fun e w' => e = .returned (.bool true) ∧ Below w.heap.size w w' := by
  have HA := Lib.hid hA; have HOK := Lib.hid hok; have HX := Lib.hid hx
  clear hA hok hx
  obtain ⟨lg, hlg⟩ : ∃ b, longA l = b := ⟨_, rfl⟩
  have hc := long2_any A l c w HA.out HX.out HOK.out
  rw [hlg] at hc h
  cases lg with
  | true =>
    go_enter Try.func12, Try.ntmps12
    go_wp2_with fail
    refine hc.mono ?_
    rintro e w1 ⟨rfl, hb⟩
    have HB := Lib.hid hb
    clear hb
    go_wp2_with fail
    go_ret
    exact ⟨rfl, HB.out⟩
  | false =>
    have q : decide (n < 0) = true := by simp at h; simpa using h
    go_enter Try.func12, Try.ntmps12
    go_wp2_with fail
    refine hc.mono ?_
    rintro e w1 ⟨rfl, hb⟩
    have HB := Lib.hid hb
    clear hb
    go_wp2_with fail
    go_ret
    exact ⟨rfl, HB.out⟩

/-- What is held from round to round. -/
structure FuseInv (w wr : World) (p : Nat) (n k dn : Nat) (T : Nat → Prop) (D : DS) : Prop where
  at_ : Dk w.heap.size wr p T D
  below : Below w.heap.size w wr
  fuse : D.fuse = (n : Int) - dn
  le : dn ≤ n
  wide : D.lasts.length = 20
  waits : ∀ j, (D.waits j).length ≤ k
theorem DS.burn_fuse (D : DS) : D.burn.fuse = if 0 < D.fuse then D.fuse - 1 else D.fuse := rfl
theorem FuseInv.bump {w wr w' : World} {p n k dn : Nat} {T T' : Nat → Prop} {D D' : DS} (h : FuseInv w wr p n k dn T D) (hd : Dk w.heap.size w' p T' D') (hb : Below w.heap.size w w') (hf : D.fuse ≠ 0) (hf' : D'.fuse = if 0 < D.fuse then D.fuse - 1 else D.fuse) (hw : D'.lasts.length = 20) (hs : ∀ j, (D'.waits j).length ≤ k + 1) : FuseInv w w' p n (k + 1) (dn + 1) T' D' := by
  have h1 := h.fuse
  have h2 := h.le
  exact ⟨hd, hb, by rw [hf', h1]; split <;> omega, by omega, hw, hs⟩
theorem FuseInv.same {w wr w' : World} {p n k dn : Nat} {T T' : Nat → Prop} {D : DS} (h : FuseInv w wr p n k dn T D) (hd : Dk w.heap.size w' p T' D) (hb : Below w.heap.size w w') : FuseInv w w' p n (k + 1) dn T' D :=
  ⟨hd, hb, h.fuse, h.le, h.wide, fun j => Nat.le_succ_of_le (h.waits j)⟩

set_option maxRecDepth 100000 in
set_option maxHeartbeats 8000000 in
theorem fuse_in (n : Nat) (A : Option Addr) (l : List AAct) (c : Nat) (w : World) (hA : Acts w A l) (hx : l.length ≤ maxLen) (hok : ∀ x ∈ l, x.Ok) (hlong : longA l = false) (hn : n ≤ 9223372036854775807) :
    Calls Try.prog 12 #[.int .i64 n, .slice A l.length c] w fun e w' => e = .returned (.bool true) ∧ Below w.heap.size w w' := by
  have HA := Lib.hid hA; have HOK := Lib.hid hok; have HX := Lib.hid hx
  have hc := long2_any A l c w HA.out HX.out HOK.out
  rw [hlong] at hc
  have hx' : (l.length : Int) ≤ 9223372036854775807 := by unfold maxLen at hx; omega
  have q : decide ((n : Int) < 0) = false := by simp
  clear hA hok hx hlong
  go_enter Try.func12, Try.ntmps12
  go_wp2_with fail
  refine hc.mono ?_
  rintro e w0 ⟨rfl, hb⟩
  have HB0 := Lib.hid hb
  clear hb hc
  go_wp2_with fail
  refine (dk_new 20 w0 (by omega) (by omega)).mono ?_
  rintro e w1 ⟨p, S, rfl, hd, hb⟩
  have HB1 : Hid (Below w.heap.size w w1) := Lib.hid (HB0.out.trans (hb.mono HB0.out.size))
  have HD1 : Hid (Dk w.heap.size w1 p S (freshD 20)) := Lib.hid ⟨hd.at_, fun k hk => ⟨Nat.le_trans HB0.out.size (hd.base k hk).1, (hd.base k hk).2⟩, Nat.le_trans HB0.out.size hd.low⟩
  clear hd hb
  go_wp2_with fail
  refine (dk_fuse p S _ n w1 HD1.out (by omega)).mono ?_
  rintro e w2 ⟨rfl, hd, hk⟩
  rw [if_neg (by omega)] at hd
  have HI2 : Hid (FuseInv w w2 p n 0 0 S { freshD 20 with fuse := n }) := Lib.hid ⟨hd, HB1.out.trans (HD1.out.keptBelow hk), by simp, by omega, by simp [freshD], fun j => by simp [freshD]⟩
  clear hd hk HB1 HD1 HB0 q
  go_wp2_with fail
  go_loopw [7, 8] (fun d i wr => ∃ (k dn : Nat) (T : Nat → Prop) (D : DS), k ≤ l.length ∧ k ≤ 60 ∧ d = .int .i64 dn ∧ i = .int .i64 k ∧ Hid (FuseInv w wr p n k dn T D)) (fun _ i _ => 200 - (intOf i).toNat)
  case atStart => exact ⟨0, 0, S, _, by omega, by omega, rfl, rfl, HI2⟩
  case round =>
    obtain ⟨k, dn, T, D, hk, hk60, rfl, rfl, HI⟩ := hrel
    by_cases hlt : k < l.length ∧ k < 60
    · obtain ⟨hlt, h60⟩ := hlt
      have q1 : decide ((k : Int) < (l.length : Int)) = true := by simp; omega
      have q2 : decide ((k : Int) < 60) = true := by simp; omega
      have hA' := HA.out.below HI.out.below
      obtain ⟨b, o, rfl, hbl, A1, c1, A2, c2, g0, g1, g2, g3, g4, g5⟩ := hA'.get k hlt
      obtain ⟨x, hx⟩ : ∃ x, x = l[k] := ⟨_, rfl⟩
      rw [← hx] at g0 g1 g2 g3 g4 g5
      have HG4 := Lib.hid g4
      have hroom : ∀ j, (D.waits j).length ≤ 1000000 := fun j => Nat.le_trans (HI.out.waits j) (by omega)
      have HRM := Lib.hid hroom
      have hfu := HI.out.fuse
      have hle := HI.out.le
      clear hx g3 g4 g5 hA' hroom
      obtain ⟨K0, hK0⟩ : ∃ z, z = x.kind := ⟨_, rfl⟩
      rw [← hK0] at g0
      clear hK0
      by_cases k1 : K0 = 1
      · subst k1
        have hdr : Below w.heap.size w ({ wr with drawn := wr.drawn + 1 } : World) := below_drawn HI.out.below
        have HDR := Lib.hid hdr
        by_cases hf : D.fuse = 0
        · have hE : D.writeE x.idx x.bytes = 6 := by simp [DS.writeE, hf]
          have hD : D.writeA x.idx x.bytes = D := by simp [DS.writeA, hf]
          have qn : decide (n ≤ dn) = true := by simp; omega
          have HE := Lib.hid hE; have HD := Lib.hid hD
          clear hE hD hdr hf hfu
          (go_wp2_with fail; go_still_tail 11, (by kernel_rfl); go_wp2_with fail; refine (dk_writeA p T D x.idx A1 x.bytes c1 _ HI.out.at_.drawn (HG4.out.fix (Nat.le_refl _) fun _ _ _ _ => rfl) HRM.out).mono ?_; rintro e w5 ⟨T5, rfl, hd, hk5, hS⟩)
          rw [HE.out]
          rw [HD.out] at hd
          have HI5 := Lib.hid (HI.out.same hd (HDR.out.trans (HI.out.at_.drawn.keptBelow hk5)))
          clear hd hk5 hS HI HDR HRM HG4 HE HD
          (go_wp2_with fail; go_round; exact ⟨k + 1, _, _, _, by omega, by omega, by simp, by simp, HI5⟩; (simp [intOf]; omega))
        · by_cases hb : D.bad x.idx x.bytes
          · have hE : D.writeE x.idx x.bytes = 1 := by simp [DS.writeE, hf, hb]
            have hD : D.writeA x.idx x.bytes = D := by simp [DS.writeA, hf, hb]
            have qn : decide (n ≤ dn) = false := by simp; omega
            have HE := Lib.hid hE; have HD := Lib.hid hD
            clear hE hD hdr hf hfu hb
            (go_wp2_with fail; go_still_tail 11, (by kernel_rfl); go_wp2_with fail; refine (dk_writeA p T D x.idx A1 x.bytes c1 _ HI.out.at_.drawn (HG4.out.fix (Nat.le_refl _) fun _ _ _ _ => rfl) HRM.out).mono ?_; rintro e w5 ⟨T5, rfl, hd, hk5, hS⟩)
            rw [HE.out]
            rw [HD.out] at hd
            have HI5 := Lib.hid (HI.out.same hd (HDR.out.trans (HI.out.at_.drawn.keptBelow hk5)))
            clear hd hk5 hS HI HDR HRM HG4 HE HD
            (go_wp2_with fail; go_round; exact ⟨k + 1, _, _, _, by omega, by omega, by simp, by simp, HI5⟩; (simp [intOf]; omega))
          · have hE : D.writeE x.idx x.bytes = 0 := by simp [DS.writeE, hf, hb]
            have hD : D.writeA x.idx x.bytes = D.write x.idx.toNat x.bytes := by simp [DS.writeA, hf, hb]
            have qn : decide (n ≤ dn) = false := by simp; omega
            have hle2 : dn < n := by omega
            have HE := Lib.hid hE; have HD := Lib.hid hD; have HF := Lib.hid hf
            clear hE hD hdr hf hfu hb
            (go_wp2_with fail; go_still_tail 11, (by kernel_rfl); go_wp2_with fail; refine (dk_writeA p T D x.idx A1 x.bytes c1 _ HI.out.at_.drawn (HG4.out.fix (Nat.le_refl _) fun _ _ _ _ => rfl) HRM.out).mono ?_; rintro e w5 ⟨T5, rfl, hd, hk5, hS⟩)
            rw [HE.out]
            have HI5 := Lib.hid (HI.out.bump hd (HDR.out.trans (HI.out.at_.drawn.keptBelow hk5)) HF.out (by rw [HD.out]; rfl) (by rw [DS.writeA_lasts]; exact HI.out.wide) (DS.writeA_waits_le HI.out.waits))
            clear hd hk5 hS HI HDR HRM HG4 HE HD
            (go_wp2_with fail; go_round; exact ⟨k + 1, _, _, _, by omega, by omega, by simp, by simp, HI5⟩; (simp [intOf]; omega))
      · have k1' : (K0 == 1) = false := by simpa using k1
        by_cases k2 : K0 = 2
        · subst k2
          by_cases hf : D.fuse = 0
          · have hE : D.flushE = 6 := by simp [DS.flushE, hf]
            have hD : D.flushA = D := by simp [DS.flushA, hf]
            have qn : decide (n ≤ dn) = true := by simp; omega
            have HE := Lib.hid hE; have HD := Lib.hid hD
            clear hE hD hf hfu
            go_wp2_with fail
            refine (dk_flushA p T D _ HI.out.at_ HRM.out).mono ?_
            rintro e w5 ⟨rfl, hd, hk5⟩
            rw [HE.out]
            rw [HD.out] at hd
            have HI5 := Lib.hid (HI.out.same hd (HI.out.below.trans (HI.out.at_.keptBelow hk5)))
            clear hd hk5 HI HRM HG4 HE HD
            (go_wp2_with fail; go_round; exact ⟨k + 1, _, _, _, by omega, by omega, by simp, by simp, HI5⟩; (simp [intOf]; omega))
          · have hE : D.flushE = 0 := by simp [DS.flushE, hf]
            have hD : D.flushA = D.flush := by simp [DS.flushA, hf]
            have qn : decide (n ≤ dn) = false := by simp; omega
            have hle2 : dn < n := by omega
            have HE := Lib.hid hE; have HD := Lib.hid hD; have HF := Lib.hid hf
            clear hE hD hf hfu
            go_wp2_with fail
            refine (dk_flushA p T D _ HI.out.at_ HRM.out).mono ?_
            rintro e w5 ⟨rfl, hd, hk5⟩
            rw [HE.out]
            have HI5 := Lib.hid (HI.out.bump hd (HI.out.below.trans (HI.out.at_.keptBelow hk5)) HF.out (by rw [HD.out]; rfl) (by rw [DS.flushA_lasts_length]; exact HI.out.wide) (DS.flushA_waits_le HI.out.waits))
            clear hd hk5 HI HRM HG4 HE HD
            (go_wp2_with fail; go_round; exact ⟨k + 1, _, _, _, by omega, by omega, by simp, by simp, HI5⟩; (simp [intOf]; omega))
        · have k2' : (K0 == 2) = false := by simpa using k2
          have HI5 := Lib.hid (HI.out.same HI.out.at_ HI.out.below)
          clear hfu HI HRM HG4
          (go_wp2_with fail; go_round; exact ⟨k + 1, _, _, _, by omega, by omega, by simp, by simp, HI5⟩; (simp [intOf]; omega))
    · have hfin : Hid (FuseInv w wr p n k dn T D) := HI
      clear HA HOK HX hx'
      by_cases hlt1 : k < l.length
      · have q1 : decide ((k : Int) < (l.length : Int)) = true := by simp; omega
        have q2 : decide ((k : Int) < 60) = false := by simp; omega
        (go_wp2_with fail; refine (dk_crash p T D none [] 0 wr HI.out.at_ (.inl rfl) (fun b o e => by cases e) (fun j => Nat.le_trans (HI.out.waits j) (by omega))).mono ?_; rintro e w5 ⟨rfl, hd, hk5⟩; have HD5 := Lib.hid hd; have HB5 := Lib.hid (HI.out.below.trans (HI.out.at_.keptBelow hk5)); have HW5 := Lib.hid HI.out.wide; clear hd hk5 HI hfin; go_wp2_with fail; refine (dk_write p T _ 0 none [] 0 w5 HD5.out (by show (-1 : Int) ≠ 0; omega) (by rw [DS.crash_lasts_length, HW5.out]; omega) (.inl rfl) (by simp) (by simp [DS.crash])).mono ?_; rintro e w6 ⟨T6, rfl, hd, hk6, hS⟩; have HD6 := Lib.hid hd; have HB6 := Lib.hid (HB5.out.trans (HD5.out.keptBelow hk6)); clear hd hk6 hS HD5 HB5; go_wp2_with fail; refine (dk_flush p T6 _ w6 HD6.out (by show (-1 : Int) ≠ 0; omega) (fun j => by simp only [DS.write, DS.put, DS.burn, DS.crash]; split <;> simp)).mono ?_; rintro e w7 ⟨rfl, hd, hk7⟩; have HB7 := Lib.hid (HB6.out.trans (HD6.out.keptBelow hk7)); clear hd hk7 HD6 HB6; go_wp2_with fail; refine (known2_any _).mono ?_; rintro e w8 ⟨rfl, hb⟩; have HB8 := Lib.hid hb; clear hb; go_wp2_with fail; go_ret; exact ⟨rfl, HB7.out.trans (HB8.out.mono HB7.out.size)⟩)
      · have q1 : decide ((k : Int) < (l.length : Int)) = false := by simp; omega
        (go_wp2_with fail; refine (dk_crash p T D none [] 0 wr HI.out.at_ (.inl rfl) (fun b o e => by cases e) (fun j => Nat.le_trans (HI.out.waits j) (by omega))).mono ?_; rintro e w5 ⟨rfl, hd, hk5⟩; have HD5 := Lib.hid hd; have HB5 := Lib.hid (HI.out.below.trans (HI.out.at_.keptBelow hk5)); have HW5 := Lib.hid HI.out.wide; clear hd hk5 HI hfin; go_wp2_with fail; refine (dk_write p T _ 0 none [] 0 w5 HD5.out (by show (-1 : Int) ≠ 0; omega) (by rw [DS.crash_lasts_length, HW5.out]; omega) (.inl rfl) (by simp) (by simp [DS.crash])).mono ?_; rintro e w6 ⟨T6, rfl, hd, hk6, hS⟩; have HD6 := Lib.hid hd; have HB6 := Lib.hid (HB5.out.trans (HD5.out.keptBelow hk6)); clear hd hk6 hS HD5 HB5; go_wp2_with fail; refine (dk_flush p T6 _ w6 HD6.out (by show (-1 : Int) ≠ 0; omega) (fun j => by simp only [DS.write, DS.put, DS.burn, DS.crash]; split <;> simp)).mono ?_; rintro e w7 ⟨rfl, hd, hk7⟩; have HB7 := Lib.hid (HB6.out.trans (HD6.out.keptBelow hk7)); clear hd hk7 HD6 HB6; go_wp2_with fail; refine (known2_any _).mono ?_; rintro e w8 ⟨rfl, hb⟩; have HB8 := Lib.hid hb; clear hb; go_wp2_with fail; go_ret; exact ⟨rfl, HB7.out.trans (HB8.out.mono HB7.out.size)⟩)
theorem fuse_all (n : Int) (A : Option Addr) (l : List AAct) (c : Nat) (w : World) (hA : Acts w A l) (hx : l.length ≤ maxLen) (hok : ∀ x ∈ l, x.Ok) (hn : (Lit.int .i64 n).wf = true) :
    Calls Try.prog 12 #[.int .i64 n, .slice A l.length c] w fun e w' => e = .returned (.bool true) ∧ Below w.heap.size w w' := by
  have hb : n ≤ 9223372036854775807 := by
    simp only [Lit.wf, Bool.and_eq_true, decide_eq_true_eq] at hn
    have a2 : IntKind.i64.max = 9223372036854775807 := rfl
    omega
  by_cases h : longA l = true ∨ n < 0
  · exact fuse_out n A l c w hA hx hok h
  · obtain ⟨m, rfl⟩ : ∃ m : Nat, n = m := ⟨n.toNat, by omega⟩
    exact fuse_in m A l c w hA hx hok (by cases hl : longA l <;> simp_all) (by omega)
end Go.Proofs.Ythbdlfkdemjpoaa
