/- The walk of the law SuperTurned: it returns true for every input. No condition. -/
import Derived.Test.YthbdlfkdemjpoaaB13
import Derived.Test.YthbdlfkdemjpoaaB14
namespace Go.Proofs.Ythbdlfkdemjpoaa
open Go.RowKit Go.Maps
attribute [local go_sem ↓] Go.wp_at_zero Go.wp_at_succ

theorem Bytes.low {w : World} {A : Option Addr} {l : List UInt8} (h : Bytes w A l) (hn : l ≠ []) {b o : Nat} (e : A = some ⟨b, o, none⟩) : b < w.heap.size := by
  rcases h with h | ⟨b', o', e', hl, _⟩
  · exact absurd h hn
  · rw [e'] at e; cases e; exact hl
theorem wraps_i64 (n : Int) (h1 : 0 ≤ n) (h2 : n < 1048576) : IntKind.i64.wrap n = n := by
  rw [IntKind.wrap_i64]; omega
theorem xor_u8 (x y : UInt8) : bits .xor .u8 (x.toNat : Int) (y.toNat : Int) = ((x ^^^ y).toNat : Int) := by
  have h1 : ∀ z : UInt8, BitVec.ofInt 8 (z.toNat : Int) = z.toBitVec := fun z => by
    apply BitVec.eq_of_toNat_eq
    rw [BitVec.ofInt_natCast, BitVec.toNat_ofNat]
    exact Nat.mod_eq_of_lt z.toNat_lt
  show IntKind.u8.wrap ((BitVec.ofInt 8 (x.toNat : Int) ^^^ BitVec.ofInt 8 (y.toNat : Int)).toNat : Int) = _
  rw [h1, h1]
  have h2 : (x.toBitVec ^^^ y.toBitVec).toNat = (x ^^^ y).toNat := rfl
  have h3 := (x ^^^ y).toNat_lt
  have h4 : ∀ v : Nat, v < 256 → IntKind.u8.wrap (v : Int) = v := fun v hv => by
    simp [IntKind.wrap, IntKind.bits, IntKind.signed]
    omega
  rw [h2, h4 _ h3]
theorem turn_ne {x y : UInt8} (h : y ≠ 0) : x ≠ x ^^^ y := fun e => h (by
  have := congrArg (x ^^^ ·) e
  simpa [← UInt8.xor_assoc] using this.symm)
theorem secV_set (w : World) (h : Nat) (r : Row) (t : TypeId) (j : Nat) (b : UInt8) (hh : w.heap[h]? = some (.cells (secV r).toArray t (0, 0))) : Bytes (w.setCell ⟨h, j, none⟩ (.int .u8 (b.toNat : Int))) (some ⟨h, 0, none⟩) (r.set j b) := by
  have h1 := blk_set (o := j) hh (.int .u8 (b.toNat : Int))
  refine .inr ⟨h, 0, rfl, lt_of h1, fun i v hv => ?_⟩
  rw [Nat.zero_add, cell_of h1, ← hv]
  simp [secV, List.map_set]
theorem masked (n : Int) : ∃ m : Nat, m < 1024 ∧ (bits .and .i64 n 1048575).tmod 1024 = (m : Int) := by
  have h : bits .and .i64 n 1048575 = (((BitVec.ofInt 64 n).toNat &&& 1048575 : Nat) : Int) := by
    have h1 : (BitVec.ofInt 64 (1048575 : Int)).toNat = 1048575 := by decide
    have h2 : (BitVec.ofInt 64 n &&& BitVec.ofInt 64 1048575).toNat = ((BitVec.ofInt 64 n).toNat &&& 1048575 : Nat) := by rw [BitVec.toNat_and, h1]
    have h3 : ((BitVec.ofInt 64 n).toNat &&& 1048575 : Nat) ≤ 1048575 := Nat.and_le_right
    show IntKind.i64.wrap ((BitVec.ofInt 64 n &&& BitVec.ofInt 64 1048575).toNat : Int) = _
    rw [h2, wraps_i64 _ (by omega) (by omega)]
  refine ⟨((BitVec.ofInt 64 n).toNat &&& 1048575) % 1024, Nat.mod_lt _ (by decide), ?_⟩
  rw [h, Int.tmod_eq_emod_of_nonneg (by omega)]
  omega
set_option maxRecDepth 100000 in
set_option maxHeartbeats 4000000 in
theorem turned_once (A1 A2 : Option Addr) (a b : Row) (c1 c2 : Nat) (n : Int) (y : UInt8) (w : World) (hA1 : Bytes w A1 a) (hA2 : Bytes w A2 b) (ha : a.length ≤ 814) (hb8 : b.length ≤ 814) (hy : y ≠ 0) : Calls Try.prog 5 #[.slice A1 a.length c1, .slice A2 b.length c2, .int .i64 n, .int .u8 y.toNat, .bool true] w fun e w' => e = .returned (.bool true) ∧ Below w.heap.size w w' := by
  have q1 : decide ((814 : Int) < (a.length : Int)) = false := by simp; omega
  have q2 : decide ((814 : Int) < (b.length : Int)) = false := by simp; omega
  obtain ⟨y0, hy0⟩ : ∃ y0, y0 = y.toNat := ⟨_, rfl⟩
  rw [← hy0]
  have q3 : ((y0 : Int) == 0) = false := by
    have : y.toNat ≠ 0 := fun h => hy (UInt8.toNat_inj.1 h)
    simp; omega
  have HY := Lib.hid hy; have HY0 := Lib.hid hy0
  have HA1 := Lib.hid hA1; have HA2 := Lib.hid hA2
  clear hy hy0 hA1 hA2
  go_enter Try.func5, Try.ntmps5
  go_wp2_with fail
  refine (dk_new 32 w (by omega) (by omega)).mono ?_
  rintro e w1 ⟨p, S, rfl, hd, hb⟩
  have HD := Lib.hid hd; have HB := Lib.hid hb
  clear hd hb
  go_wp2_with fail
  refine (format_stand p S _ A1 c1 a w1 HD.out (by decide) (fun i => rfl) (by simp [freshD]) (HA1.out.below HB.out) (fun hne b o e hs => ?_) ha).mono ?_
  · exact absurd (HD.out.base _ hs).1 (Nat.not_le.2 (HA1.out.low hne e))
  rintro e w2 ⟨q, S2, D2, A3, c3, rfl, hst, hb⟩
  have HB2 : Hid (Below w.heap.size w w2) := Lib.hid (HB.out.trans hb)
  have HS2 := Lib.hid hst
  clear hst hb
  obtain ⟨m, hm, em⟩ := masked n
  go_wp2_with fail
  have em' : ((m : Int) / 64) = ((m / 64 : Nat) : Int) := rfl
  rw [em']
  refine (read_in p S2 D2 (m / 64) w2 HS2.out.disk.at_ (by have := HS2.out.holds.wide; omega)).mono ?_
  rintro e w3 ⟨rfl, hw3⟩
  obtain ⟨r, hr⟩ : ∃ r, r = D2.read (m / 64) := ⟨_, rfl⟩
  have hrl : r.length = 64 := by rw [hr]; exact DS.read_length HS2.out.disk.at_.ok _ (by have := HS2.out.holds.wide; omega)
  rw [← hr] at hw3
  obtain ⟨j, hj⟩ : ∃ j, j = m % 64 := ⟨_, rfl⟩
  have hjl : j < 64 := by omega
  have hblk : w3.heap[w2.heap.size]? = some (.cells (secV r).toArray 97 (0, 0)) := by rw [hw3]; exact heap_alloc_new w2 _
  have c0 := secV_cell hblk j (by rw [hrl]; exact hjl)
  have f0 := frozen_of hblk j
  have hb3 : Below w2.heap.size w2 w3 := by rw [hw3]; exact below_alloc1 w2 _
  obtain ⟨x, hx⟩ : ∃ x, r[j]? = some x := ⟨_, List.getElem?_eq_getElem (by rw [hrl]; exact hjl)⟩
  have hx' : r[j]'(by rw [hrl]; exact hjl) = x := by rw [List.getElem?_eq_getElem (by rw [hrl]; exact hjl)] at hx; exact Option.some.inj hx
  rw [hx'] at c0
  have hxor := xor_u8 x y
  rw [← HY0.out] at hxor
  obtain ⟨z, hz⟩ : ∃ z, z = (x ^^^ y).toNat := ⟨_, rfl⟩
  obtain ⟨u, hu⟩ : ∃ u, u = x.toNat := ⟨_, rfl⟩
  rw [← hz] at hxor
  rw [← hu] at c0 hxor
  have ej : ((m : Int) % 64) = (j : Int) := by omega
  have HR := Lib.hid hr; have HRL := Lib.hid hrl; have HJ := Lib.hid hj; have HX := Lib.hid hx; have HZ := Lib.hid hz; have HU := Lib.hid hu; have HBLK := Lib.hid hblk; have HB3 := Lib.hid hb3
  clear hx' hr hrl hj hx hz hu hblk hb3 hw3 em'
  go_wp2_with fail
  have hnS : ¬ S2 w2.heap.size := fun hs => absurd (HS2.out.disk.base _ hs).2 (Nat.lt_irrefl _)
  have hwr := dk_write p S2 D2 (m / 64) (some ⟨w2.heap.size, 0, none⟩) (r.set j (x ^^^ y)) 64 (w3.setCell ⟨w2.heap.size, j, none⟩ (.int .u8 (z : Int))) ((HS2.out.disk.below HB3.out).setCell _ _ hnS) (by have := HS2.out.holds.free; omega) (by have := HS2.out.holds.wide; omega) (by rw [HZ.out]; exact secV_set w3 w2.heap.size r 97 j (x ^^^ y) HBLK.out) (by rw [List.length_set, HRL.out]; exact Nat.le_refl _) (by rw [HS2.out.holds.dry]; simp)
  rw [List.length_set, HRL.out] at hwr
  refine hwr.mono ?_
  rintro e w4 ⟨S4, rfl, hd4, hk4, _⟩
  have HD4 := Lib.hid hd4
  have HB4 : Hid (Below w.heap.size w w4) := Lib.hid (((HB2.out.trans (HB3.out.mono HB2.out.size)).setCell HB2.out.size _).trans (((HS2.out.disk.below HB3.out).setCell _ _ hnS).keptBelow hk4))
  have htn := DS.turned_open HS2.out.holds (k := m / 64) (j := j) (b := x ^^^ y) (r := r) (by omega) hjl (by rw [HR.out]; simp) (by rw [HX.out]; exact fun e => turn_ne HY.out (Option.some.inj e))
  have HTN : Hid ((openK (D2.write (m / 64) (r.set j (x ^^^ y))) 2).1 = false) := Lib.hid (by have := htn.1 rfl; simpa using this)
  have HW4 : Hid (32 ≤ (D2.write (m / 64) (r.set j (x ^^^ y))).lasts.length) := Lib.hid HS2.out.holds.wide
  clear hwr hd4 hk4 htn hnS c0 f0 hxor
  go_wp2_with fail
  refine (open_any p S4 _ w4 HD4.out).mono ?_
  rintro e w5 ⟨hb, a5 | a5 | a5⟩
  · exact absurd a5.1 (Nat.not_lt.2 HW4.out)
  · obtain ⟨_, _, rfl⟩ := a5
    have HB5 := Lib.hid (HB4.out.trans (hb.mono HB4.out.size))
    clear hb
    go_wp2_with fail
    refine (known3_any _).mono ?_
    rintro e w6 ⟨rfl, hb⟩
    have HB6 := Lib.hid (HB5.out.trans (hb.mono HB5.out.size))
    clear hb
    go_wp2_with fail
    go_ret
    exact ⟨rfl, HB6.out⟩
  · rw [HTN.out] at a5; exact absurd a5.2.1 (by simp)
set_option maxRecDepth 100000 in
set_option maxHeartbeats 4000000 in
theorem turned_twice (A1 A2 : Option Addr) (a b : Row) (c1 c2 : Nat) (n : Int) (y : UInt8) (w : World) (hA1 : Bytes w A1 a) (hA2 : Bytes w A2 b) (ha : a.length ≤ 814) (hb8 : b.length ≤ 814) (hy : y ≠ 0) : Calls Try.prog 5 #[.slice A1 a.length c1, .slice A2 b.length c2, .int .i64 n, .int .u8 y.toNat, .bool false] w fun e w' => e = .returned (.bool true) ∧ Below w.heap.size w w' := by
  have q1 : decide ((814 : Int) < (a.length : Int)) = false := by simp; omega
  have q2 : decide ((814 : Int) < (b.length : Int)) = false := by simp; omega
  obtain ⟨y0, hy0⟩ : ∃ y0, y0 = y.toNat := ⟨_, rfl⟩
  rw [← hy0]
  have q3 : ((y0 : Int) == 0) = false := by
    have : y.toNat ≠ 0 := fun h => hy (UInt8.toNat_inj.1 h)
    simp; omega
  have HY := Lib.hid hy; have HY0 := Lib.hid hy0
  have HA1 := Lib.hid hA1; have HA2 := Lib.hid hA2
  clear hy hy0 hA1 hA2
  go_enter Try.func5, Try.ntmps5
  go_wp2_with fail
  refine (dk_new 32 w (by omega) (by omega)).mono ?_
  rintro e w1 ⟨p, S, rfl, hd, hb⟩
  have HD := Lib.hid hd; have HB := Lib.hid hb
  clear hd hb
  go_wp2_with fail
  refine (format_stand p S _ A1 c1 a w1 HD.out (by decide) (fun i => rfl) (by simp [freshD]) (HA1.out.below HB.out) (fun hne b o e hs => ?_) ha).mono ?_
  · exact absurd (HD.out.base _ hs).1 (Nat.not_le.2 (HA1.out.low hne e))
  rintro e w2 ⟨q, S2, D2, A3, c3, rfl, hst, hb⟩
  have HB2 : Hid (Below w.heap.size w w2) := Lib.hid (HB.out.trans hb)
  have HS2 := Lib.hid hst
  clear hst hb
  go_wp2_with fail
  refine (commit_stand p q S2 D2 _ _ A3 A2 c3 c2 b w2 HS2.out (HA2.out.below HB2.out) (fun hne b o e => ⟨fun hs => absurd (HS2.out.disk.base _ hs).1 (Nat.not_le.2 (HA2.out.low hne e)), fun e2 => absurd HS2.out.base (by rw [← e2]; exact Nat.not_le.2 (HA2.out.low hne e))⟩) hb8 (by show 1 < 1125899906842624; omega)).mono ?_
  rintro e w2' ⟨S2', D2', A3', c3', rfl, hst, hb⟩
  have HB2' : Hid (Below w.heap.size w w2') := Lib.hid (HB2.out.trans hb)
  have HS2' := Lib.hid hst
  clear hst hb HB2 HS2
  obtain ⟨m, hm, em⟩ := masked n
  go_wp2_with fail
  have em' : (16 + (m : Int) / 64) = ((16 + m / 64 : Nat) : Int) := by omega
  rw [em']
  refine (read_in p S2' D2' (16 + m / 64) w2' HS2'.out.disk.at_ (by have := HS2'.out.holds.wide; omega)).mono ?_
  rintro e w3 ⟨rfl, hw3⟩
  obtain ⟨r, hr⟩ : ∃ r, r = D2'.read (16 + m / 64) := ⟨_, rfl⟩
  have hrl : r.length = 64 := by rw [hr]; exact DS.read_length HS2'.out.disk.at_.ok _ (by have := HS2'.out.holds.wide; omega)
  rw [← hr] at hw3
  obtain ⟨j, hj⟩ : ∃ j, j = m % 64 := ⟨_, rfl⟩
  have hjl : j < 64 := by omega
  have hblk : w3.heap[w2'.heap.size]? = some (.cells (secV r).toArray 97 (0, 0)) := by rw [hw3]; exact heap_alloc_new w2' _
  have c0 := secV_cell hblk j (by rw [hrl]; exact hjl)
  have f0 := frozen_of hblk j
  have hb3 : Below w2'.heap.size w2' w3 := by rw [hw3]; exact below_alloc1 w2' _
  obtain ⟨x, hx⟩ : ∃ x, r[j]? = some x := ⟨_, List.getElem?_eq_getElem (by rw [hrl]; exact hjl)⟩
  have hx' : r[j]'(by rw [hrl]; exact hjl) = x := by rw [List.getElem?_eq_getElem (by rw [hrl]; exact hjl)] at hx; exact Option.some.inj hx
  rw [hx'] at c0
  have hxor := xor_u8 x y
  rw [← HY0.out] at hxor
  obtain ⟨z, hz⟩ : ∃ z, z = (x ^^^ y).toNat := ⟨_, rfl⟩
  obtain ⟨u, hu⟩ : ∃ u, u = x.toNat := ⟨_, rfl⟩
  rw [← hz] at hxor
  rw [← hu] at c0 hxor
  have ej : ((m : Int) % 64) = (j : Int) := by omega
  have HR := Lib.hid hr; have HRL := Lib.hid hrl; have HJ := Lib.hid hj; have HX := Lib.hid hx; have HZ := Lib.hid hz; have HU := Lib.hid hu; have HBLK := Lib.hid hblk; have HB3 := Lib.hid hb3
  clear hx' hr hrl hj hx hz hu hblk hb3 hw3 em'
  go_wp2_with fail
  have hnS : ¬ S2' w2'.heap.size := fun hs => absurd (HS2'.out.disk.base _ hs).2 (Nat.lt_irrefl _)
  have hwr := dk_write p S2' D2' (16 + m / 64) (some ⟨w2'.heap.size, 0, none⟩) (r.set j (x ^^^ y)) 64 (w3.setCell ⟨w2'.heap.size, j, none⟩ (.int .u8 (z : Int))) ((HS2'.out.disk.below HB3.out).setCell _ _ hnS) (by have := HS2'.out.holds.free; omega) (by have := HS2'.out.holds.wide; omega) (by rw [HZ.out]; exact secV_set w3 w2'.heap.size r 97 j (x ^^^ y) HBLK.out) (by rw [List.length_set, HRL.out]; exact Nat.le_refl _) (by rw [HS2'.out.holds.dry]; simp)
  rw [List.length_set, HRL.out] at hwr
  refine hwr.mono ?_
  rintro e w4 ⟨S4, rfl, hd4, hk4, _⟩
  have HD4 := Lib.hid hd4
  have HB4 : Hid (Below w.heap.size w w4) := Lib.hid (((HB2'.out.trans (HB3.out.mono HB2'.out.size)).setCell HB2'.out.size _).trans (((HS2'.out.disk.below HB3.out).setCell _ _ hnS).keptBelow hk4))
  have htn := DS.turned_open HS2'.out.holds (k := m / 64) (j := j) (b := x ^^^ y) (r := r) (by omega) hjl (by rw [HR.out]; simp) (by rw [HX.out]; exact fun e => turn_ne HY.out (Option.some.inj e))
  have HTN : Hid ((openK (D2'.write (16 + m / 64) (r.set j (x ^^^ y))) 2).1 = true ∧ (openK (D2'.write (16 + m / 64) (r.set j (x ^^^ y))) 2).2.img = a) := Lib.hid (htn.2 1 a rfl (Nat.le_refl _) (by omega) ha)
  have HW4 : Hid (32 ≤ (D2'.write (16 + m / 64) (r.set j (x ^^^ y))).lasts.length) := Lib.hid HS2'.out.holds.wide
  clear hwr hd4 hk4 htn hnS c0 f0 hxor
  go_wp2_with fail
  refine (open_any p S4 _ w4 HD4.out).mono ?_
  rintro e w5 ⟨hb, a5 | a5 | a5⟩
  · exact absurd a5.1 (Nat.not_lt.2 HW4.out)
  · rw [HTN.out.1] at a5; exact absurd a5.2.1 (by simp)
  · obtain ⟨_, _, q5, A5, c5, rfl, hq5, hm5⟩ := a5
    obtain ⟨X5, hX5⟩ : ∃ X5, X5 = (openK (D2'.write (16 + m / 64) (r.set j (x ^^^ y))) 2).2 := ⟨_, rfl⟩
    rw [← hX5] at hm5
    have hi5 : X5.img = a := by rw [hX5]; exact HTN.out.2
    have HB5 := Lib.hid (HB4.out.trans (hb.mono HB4.out.size))
    have HM5 := Lib.hid hm5; have HI5 := Lib.hid hi5
    clear hb hq5 hm5 hi5 hX5
    go_wp2_with fail
    have him := image_any q5 p _ X5 A5 c5 w5.drew (HM5.out.below (Below.refl _ _).drew) (by rw [HI5.out]; exact ha)
    rw [HI5.out] at him
    have HIM := hide him
    clear him
    refine wp_region_E (fun w' => (convert 22 9 (.slice A1 a.length c1)).run Try.prog w' = .ok (.string ⟨a.toArray⟩) w') 17 (by kernel_rfl) (by kernel_rfl) (conv_text _ A1 a c1 (HA1.out.below HB5.out.drew)) (fun hHeld => ?_)
    (refine wpE_take (i := 0) 100 (v := ?_) (by kernel_rfl) rfl rfl (by decide) (by kernel_rfl) (by kernel_rfl) (fun _ _ _ h => h) (Or.inl ⟨by rfl, ?_⟩) (by assumption) ?_; rotate_left; (focus (intro w hSw; (try dsimp only at hSw); go_simp; try with_reducible rfl)); (try simp only [Act.put, List.setIfInBounds_toArray, List.set_cons_zero, List.set_cons_succ]))
    (refine wpE_take (i := 1) 101 (v := ?_) (by kernel_rfl) rfl rfl (by decide) (by kernel_rfl) (by kernel_rfl) (fun _ _ _ h => h) (Or.inl ⟨by rfl, ?_⟩) (by assumption) ?_; rotate_left; (focus (intro w hSw; (try dsimp only at hSw); go_simp; try with_reducible rfl)); (try simp only [Act.put, List.setIfInBounds_toArray, List.set_cons_zero, List.set_cons_succ]))
    (refine wpE_take (i := 2) 102 (v := ?_) (by kernel_rfl) rfl rfl (by decide) (by kernel_rfl) (by kernel_rfl) (fun _ _ _ h => h) (Or.inl ⟨by rfl, ?_⟩) (by assumption) ?_; rotate_left; (focus (intro w hSw; (try dsimp only at hSw); go_simp; try with_reducible rfl)); (try simp only [Act.put, List.setIfInBounds_toArray, List.set_cons_zero, List.set_cons_succ]))
    (refine wpE_take (i := 3) 103 (v := ?_) (by kernel_rfl) rfl rfl (by decide) (by kernel_rfl) (by kernel_rfl) (fun _ _ _ h => h) (Or.inl ⟨by rfl, ?_⟩) (by assumption) ?_; rotate_left; (focus (intro w hSw; (try dsimp only at hSw); go_simp; try with_reducible rfl)); (try simp only [Act.put, List.setIfInBounds_toArray, List.set_cons_zero, List.set_cons_succ]))
    (refine wpE_take (i := 4) 104 (v := ?_) (by kernel_rfl) rfl rfl (by decide) (by kernel_rfl) (by kernel_rfl) (fun _ _ _ h => h) (Or.inl ⟨by rfl, ?_⟩) (by assumption) ?_; rotate_left; (focus (intro w hSw; (try dsimp only at hSw); go_simp; try with_reducible rfl)); (try simp only [Act.put, List.setIfInBounds_toArray, List.set_cons_zero, List.set_cons_succ]))
    (refine wpE_take (i := 5) 105 (v := ?_) (by kernel_rfl) rfl rfl (by decide) (by kernel_rfl) (by kernel_rfl) (fun _ _ _ h => h) (Or.inl ⟨by rfl, ?_⟩) (by assumption) ?_; rotate_left; (focus (intro w hSw; (try dsimp only at hSw); go_simp; try with_reducible rfl)); (try simp only [Act.put, List.setIfInBounds_toArray, List.set_cons_zero, List.set_cons_succ]))
    (refine wpE_take (i := 6) 106 (v := ?_) (by kernel_rfl) rfl rfl (by decide) (by kernel_rfl) (by kernel_rfl) (fun _ _ _ h => h) (Or.inl ⟨by rfl, ?_⟩) (by assumption) ?_; rotate_left; (focus (intro w hSw; (try dsimp only at hSw); go_simp; try with_reducible rfl)); (try simp only [Act.put, List.setIfInBounds_toArray, List.set_cons_zero, List.set_cons_succ]))
    (refine wpE_take (i := 7) 107 (v := ?_) (by kernel_rfl) rfl rfl (by decide) (by kernel_rfl) (by kernel_rfl) (fun _ _ _ h => h) (Or.inl ⟨by rfl, ?_⟩) (by assumption) ?_; rotate_left; (focus (intro w hSw; (try dsimp only at hSw); go_simp; try with_reducible rfl)); (try simp only [Act.put, List.setIfInBounds_toArray, List.set_cons_zero, List.set_cons_succ]))
    (refine wpE_take (i := 10) 110 (v := ?_) (by kernel_rfl) rfl rfl (by decide) (by kernel_rfl) (by kernel_rfl) (fun _ _ _ h => h) (Or.inl ⟨by rfl, ?_⟩) (by assumption) ?_; rotate_left; (focus (intro w hSw; (try dsimp only at hSw); go_simp; try with_reducible rfl)); (try simp only [Act.put, List.setIfInBounds_toArray, List.set_cons_zero, List.set_cons_succ]))
    (refine wpE_take (i := 11) 111 (v := ?_) (by kernel_rfl) rfl rfl (by decide) (by kernel_rfl) (by kernel_rfl) (fun _ _ _ h => h) (Or.inl ⟨by rfl, ?_⟩) (by assumption) ?_; rotate_left; (focus (intro w hSw; (try dsimp only at hSw); go_simp; try with_reducible rfl)); (try simp only [Act.put, List.setIfInBounds_toArray, List.set_cons_zero, List.set_cons_succ]))
    refine wpE_one (i := 8) rfl (by kernel_rfl) (by decide) (fun K hK => ?_)
    go_simp
    refine (Hid.out HIM).mono ?_
    rintro e w6 ⟨A6, c6, rfl, hf, hb⟩
    have HB6 : Hid (Below w.heap.size w w6) := Lib.hid (HB5.out.drew.trans (hb.mono HB5.out.size))
    have hcv := conv_text w6 A6 a c6 hf.bytes
    clear hf hb
    refine hK.out _ _ (conv_text _ A1 a c1 (HA1.out.below HB6.out)) (fun hHeld2 => ?_)
    (clear hK K; clear hHeld; have hHeld := hHeld2; clear hHeld2; (try simp only [Act.put, List.setIfInBounds_toArray, List.set_cons_zero, List.set_cons_succ]))
    refine wpE_one (i := 9) rfl (by kernel_rfl) (by decide) (fun K hK => ?_)
    go_simp
    refine hK.out _ _ hHeld (fun hHeld2 => ?_)
    (clear hK K; clear hHeld; have hHeld := hHeld2; clear hHeld2; (try simp only [Act.put, List.setIfInBounds_toArray, List.set_cons_zero, List.set_cons_succ]))
    (refine wpE_take (i := 12) 112 (v := ?_) (by kernel_rfl) rfl rfl (by decide) (by kernel_rfl) (by kernel_rfl) (fun _ _ _ h => h) (Or.inl ⟨by rfl, ?_⟩) (by assumption) ?_; rotate_left; (focus (intro w hSw; (try dsimp only at hSw); go_simp; try with_reducible rfl)); (try simp only [Act.put, List.setIfInBounds_toArray, List.set_cons_zero, List.set_cons_succ]))
    (refine wpE_take (i := 13) 113 (v := ?_) (by kernel_rfl) rfl rfl (by decide) (by kernel_rfl) (by kernel_rfl) (fun _ _ _ h => h) (Or.inl ⟨by rfl, ?_⟩) (by assumption) ?_; rotate_left; (focus (intro w hSw; (try dsimp only at hSw); go_simp; try with_reducible rfl)); (try simp only [Act.put, List.setIfInBounds_toArray, List.set_cons_zero, List.set_cons_succ]))
    (refine wpE_take (i := 14) 114 (v := ?_) (by kernel_rfl) rfl rfl (by decide) (by kernel_rfl) (by kernel_rfl) (fun _ _ _ h => h) (Or.inl ⟨by rfl, ?_⟩) (by assumption) ?_; rotate_left; (focus (intro w hSw; (try dsimp only at hSw); go_simp; try with_reducible rfl)); (try simp only [Act.put, List.setIfInBounds_toArray, List.set_cons_zero, List.set_cons_succ]))
    refine wpE_one (i := 15) rfl (by kernel_rfl) (by decide) (fun K hK => ?_)
    go_simp
    refine (known3_any _).mono ?_
    rintro e w7 ⟨rfl, hb⟩
    have HB7 := Lib.hid (HB6.out.trans (hb.mono HB6.out.size))
    clear hb
    refine hK.out _ _ (conv_text _ A1 a c1 (HA1.out.below HB7.out)) (fun hHeld2 => ?_)
    (clear hK K; clear hHeld; have hHeld := hHeld2; clear hHeld2; (try simp only [Act.put, List.setIfInBounds_toArray, List.set_cons_zero, List.set_cons_succ]))
    (refine wpE_take (i := 16) 116 (v := ?_) (by kernel_rfl) rfl rfl (by decide) (by kernel_rfl) (by kernel_rfl) (fun _ _ _ h => h) (Or.inl ⟨by rfl, ?_⟩) (by assumption) ?_; rotate_left; (focus (intro w hSw; (try dsimp only at hSw); go_simp; try with_reducible rfl)); (try simp only [Act.put, List.setIfInBounds_toArray, List.set_cons_zero, List.set_cons_succ]))
    refine wpE_end rfl (by kernel_rfl) (by kernel_rfl) (fun K hK => ?_)
    go_simp
    refine hK.out _ _ ?_
    clear hK K hHeld
    go_wp2_with fail
    go_ret
    exact ⟨rfl, HB7.out⟩
set_option maxRecDepth 100000 in
set_option maxHeartbeats 4000000 in
theorem turned_early (A1 A2 : Option Addr) (la lb c1 c2 : Nat) (n y : Int) (once : Bool) (w : World) (h : 814 < la ∨ 814 < lb ∨ y = 0) : Calls Try.prog 5 #[.slice A1 la c1, .slice A2 lb c2, .int .i64 n, .int .u8 y, .bool once] w fun e w' => e = .returned (.bool true) ∧ Below w.heap.size w w' := by
  by_cases h1 : 814 < la
  · have q1 : decide ((814 : Int) < (la : Int)) = true := by simp; omega
    clear h
    go_enter Try.func5, Try.ntmps5
    go_wp2_with fail
    go_ret
    exact ⟨rfl, Below.refl _ _⟩
  · have q1 : decide ((814 : Int) < (la : Int)) = false := by simp; omega
    by_cases h2 : 814 < lb
    · have q2 : decide ((814 : Int) < (lb : Int)) = true := by simp; omega
      clear h
      go_enter Try.func5, Try.ntmps5
      go_wp2_with fail
      go_ret
      exact ⟨rfl, Below.refl _ _⟩
    · have q2 : decide ((814 : Int) < (lb : Int)) = false := by simp; omega
      obtain rfl : y = 0 := by omega
      clear h
      go_enter Try.func5, Try.ntmps5
      go_wp2_with fail
      go_ret
      exact ⟨rfl, Below.refl _ _⟩
theorem turned_all (A1 A2 : Option Addr) (a b : Row) (c1 c2 : Nat) (n y : Int) (once : Bool) (w : World) (hA1 : Bytes w A1 a) (hA2 : Bytes w A2 b) (hy : (Lit.int .u8 y).wf = true) : Calls Try.prog 5 #[.slice A1 a.length c1, .slice A2 b.length c2, .int .i64 n, .int .u8 y, .bool once] w fun e w' => e = .returned (.bool true) ∧ Below w.heap.size w w' := by
  by_cases h : 814 < a.length ∨ 814 < b.length ∨ y = 0
  · exact turned_early A1 A2 _ _ c1 c2 n y once w h
  · have h5 : 0 ≤ y ∧ y < 256 := by
      have a1 : IntKind.u8.min = 0 := rfl
      have a2 : IntKind.u8.max = 255 := rfl
      simp only [Lit.wf, Bool.and_eq_true, decide_eq_true_eq] at hy
      omega
    have h6 : (UInt8.ofNat y.toNat).toNat = y.toNat := by
      show y.toNat % 256 = y.toNat
      omega
    have h7 : y = ((UInt8.ofNat y.toNat).toNat : Int) := by rw [h6]; omega
    have h8 : UInt8.ofNat y.toNat ≠ 0 := fun e => by
      have := congrArg UInt8.toNat e
      rw [h6] at this
      have h9 : (0 : UInt8).toNat = 0 := rfl
      omega
    rw [h7]
    cases once with
    | true => exact turned_once A1 A2 a b c1 c2 n _ w hA1 hA2 (by omega) (by omega) h8
    | false => exact turned_twice A1 A2 a b c1 c2 n _ w hA1 hA2 (by omega) (by omega) h8
end Go.Proofs.Ythbdlfkdemjpoaa
