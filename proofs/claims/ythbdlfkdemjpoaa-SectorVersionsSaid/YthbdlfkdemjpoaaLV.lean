/- The walk of the law SectorVersions: it returns true for every input. No condition. -/
import Derived.Test.YthbdlfkdemjpoaaP0
namespace Go.Proofs.Ythbdlfkdemjpoaa
open Go.RowKit Go.Maps

theorem Bytes.get {w : World} {A : Option Addr} {l : List UInt8} (h : Bytes w A l) (k : Nat) (hk : k < l.length) : ∃ b o, A = some ⟨b, o, none⟩ ∧ b < w.heap.size ∧ w.cell? ⟨b, o + k, none⟩ = some (.int .u8 (l[k].toNat : Int)) := by
  rcases h with rfl | ⟨b, o, rfl, hl, hc⟩
  · simp at hk
  · exact ⟨b, o, rfl, hl, hc k _ (by simp [secV, hk])⟩

set_option maxRecDepth 100000 in
set_option maxHeartbeats 2000000 in
theorem versions_long (A : Option Addr) (l : List UInt8) (c : Nat) (pick : Int) (w : World) (hl : 100 < l.length) (hx : l.length ≤ 140737488351232) :
    Calls Try.prog 9 #[.slice A l.length c, .int .i64 pick] w fun e w' => e = .returned (.bool true) ∧ Below w.heap.size w w' := by
  have q : decide ((100 : Int) < (l.length : Int)) = true := by simp; omega
  go_enter Try.func9, Try.ntmps9
  go_wp2_with fail
  go_ret
  exact ⟨rfl, Below.refl _ _⟩

/-- The disk of which a sector was flushed. -/
def verD : DS := ((freshD 3).write 1 [77]).flush
theorem verD_fuse : verD.fuse = -1 := by decide +kernel
theorem verD_lasts : verD.lasts.length = 3 := by decide +kernel
theorem verD_last : verD.lasts.getD 1 [] = pad [77] := by decide +kernel
theorem verD_waits : verD.waits = fun _ => [] := rfl
/-- What is wanted behind the crash. -/
def verWant (l : List UInt8) (K : Nat) : UInt8 := if K = 0 then 77 else l.getD (K - 1) 0
theorem ver_read (l : List UInt8) (pick : Int) (K : Nat) (hK : K = (max pick 0).toNat % (l.length + 1)) :
    ((verD.writes 1 (l.map fun b => [b])).crash [pick]).read 1 = pad [verWant l K] := by
  obtain ⟨h1, h2, h3⟩ := DS.writes_free verD_fuse 1 (l.map fun b => [b])
  have hw : (verD.writes 1 (l.map fun b => [b])).waits 1 = l.map fun b => pad [b] := by
    rw [h3, verD_waits]; simp [List.map_map, Function.comp_def]
  cases hl : l with
  | nil =>
    subst hl
    have hK0 : K = 0 := by rw [hK]; simp [Nat.mod_one]
    subst hK0
    rw [DS.crash_read_off _ (by rw [hw]; rfl), h2, verD_last]
    rfl
  | cons b r =>
    rw [← hl]
    have hu : (verD.writes 1 (l.map fun b => [b])).waiting[0]? = some 1 := by
      rw [DS.waiting_one (i := 1) (by rw [h2, verD_lasts]; omega) (fun j hj => by rw [h3, verD_waits]; simp [hj]) (by rw [hw, hl]; simp)]
      rfl
    have hp : (verD.writes 1 (l.map fun b => [b])).pick [pick] 0 1 = K := by
      unfold DS.pick
      rw [hw, List.length_map, hK]
      congr 2
      simp only [pickI, List.length_singleton, Nat.zero_lt_one, if_true, List.getD_cons_zero]
      split <;> omega
    rw [DS.crash_read_on _ hu, hp, h2, verD_last, hw]
    unfold verWant
    split
    · rfl
    · have hlt : K < l.length + 1 := hK ▸ Nat.mod_lt _ (by omega)
      rw [List.getD_eq_getElem?_getD, List.getD_eq_getElem?_getD, List.getElem?_map, List.getElem?_eq_getElem (by omega)]
      rfl

set_option maxRecDepth 100000 in
set_option maxHeartbeats 4000000 in
theorem versions_short (A : Option Addr) (l : List UInt8) (c : Nat) (pick : Int) (w : World) (hA : Bytes w A l) (hl : l.length ≤ 100) (hp : (Lit.int .i64 pick).wf = true) :
    Calls Try.prog 9 #[.slice A l.length c, .int .i64 pick] w fun e w' => e = .returned (.bool true) ∧ Below w.heap.size w w' := by
  have q : decide ((100 : Int) < (l.length : Int)) = false := by simp; omega
  go_enter Try.func9, Try.ntmps9
  go_wp2_with fail
  refine (dk_new 3 w (by omega) (by omega)).mono ?_
  rintro e w1 ⟨p, S, rfl, hd, hb⟩
  have HD := Lib.hid hd; have HB := Lib.hid hb
  clear hd hb
  go_wp2_with fail
  refine (dk_write p S _ 1 _ [77] 1 _ (HD.out.alloc _) (by decide) (by decide) (bytes_lit w1 [77] _ _ rfl) (by decide) (by decide)).mono ?_
  rintro e w2 ⟨S2, rfl, hd, hk, hS⟩
  have hb : Below w.heap.size w w2 := HB.out.trans ((((Below.refl _ _).alloc HB.out.size _)).trans ((HD.out.alloc _).keptBelow hk))
  have HD2 := Lib.hid hd; have HB2 := Lib.hid hb
  clear hd hk hS hb
  go_wp2_with fail
  have hroom : ∀ i, (((freshD 3).write 1 [77]).waits i).length ≤ 1000000 := fun i => by
    have := write_waits_le (i := 1) (l := [77]) (D := freshD 3) (n := 0) (fun j => by simp [freshD]) i
    omega
  refine (dk_flush p S2 _ w2 HD2.out (by decide) hroom).mono ?_
  rintro e w3 ⟨rfl, hd, hk⟩
  have hb : Below w.heap.size w w3 := HB2.out.trans (HD2.out.keptBelow hk)
  change Dk w.heap.size w3 p S2 verD at hd
  have HD3 := Lib.hid hd; have HB3 := Lib.hid hb
  clear hd hk hb hroom
  go_wp2_with fail
  go_loopw [7] (fun i wr => ∃ (k : Nat) (T : Nat → Prop), k ≤ l.length ∧ i = .int .i64 k ∧ Hid (Dk w.heap.size wr p T (verD.writes 1 ((l.take k).map fun b => [b]))) ∧ Hid (Below w.heap.size w wr)) (fun i _ => 200 - (intOf i).toNat)
  case atStart => exact ⟨0, S2, by omega, rfl, by simpa [DS.writes] using HD3, HB3⟩
  case round =>
    obtain ⟨k, T, hk, rfl, HDr, HBr⟩ := hrel
    by_cases hlt : k < l.length
    · have q2 : decide ((k : Int) < (l.length : Int)) = true := by simp; omega
      obtain ⟨b, o, rfl, hbl, g⟩ := (hA.below HBr.out).get k hlt
      have HA := Lib.hid hA
      have HK : Hid (verD.writes 1 ((l.take (k + 1)).map fun b => [b]) = (verD.writes 1 ((l.take k).map fun b => [b])).write 1 [l[k]]) := by
        rw [List.take_succ_eq_append_getElem hlt, List.map_append, List.map_singleton, DS.writes_snoc]
        exact Lib.hid rfl
      obtain ⟨f1, f2, f3⟩ := DS.writes_free verD_fuse 1 ((l.take k).map fun b => [b])
      have F1 := Lib.hid f1; have F2 := Lib.hid f2; have F3 := Lib.hid f3
      clear hA f1 f2 f3
      obtain ⟨y, hy⟩ : ∃ y, y = l[k] := ⟨_, rfl⟩
      rw [← hy] at g
      have HY := Lib.hid hy
      clear hy
      go_wp2_with fail
      refine (dk_write p T _ 1 _ [y] 1 _ (HDr.out.alloc _) (by rw [F1.out]; decide) (by rw [F2.out, verD_lasts]; decide) (bytes_lit wr [y] _ _ rfl) (by simp) (by rw [F3.out, verD_waits]; simp; omega)).mono ?_
      rintro e w5 ⟨T5, rfl, hd, hk5, hS⟩
      have hb5 : Below w.heap.size w w5 := HBr.out.trans ((((Below.refl _ _).alloc HBr.out.size _)).trans ((HDr.out.alloc _).keptBelow hk5))
      rw [HY.out, ← HK.out] at hd
      have HD5 := Lib.hid hd; have HB5 := Lib.hid hb5
      clear hd hk5 hb5 hS
      go_wp2_with fail
      go_round
      · exact ⟨k + 1, T5, by omega, by simp, HD5, HB5⟩
      · simp [intOf]; omega
    · have q2 : decide ((k : Int) < (l.length : Int)) = false := by simp; omega
      obtain rfl : k = l.length := by omega
      rw [List.take_length] at HDr
      obtain ⟨f1, f2, f3⟩ := DS.writes_free verD_fuse 1 (l.map fun b => [b])
      have hroom : ∀ i, ((verD.writes 1 (l.map fun b => [b])).waits i).length ≤ 1000000 := fun i => by
        rw [f3, verD_waits]
        dsimp only
        split
        · simp; omega
        · simp
      have HRM := Lib.hid hroom
      have f2L : 1 < ((verD.writes 1 (l.map fun b => [b])).crash [pick]).lasts.length := by show 1 < (DS.crashTo _ _ _).length; rw [DS.crashTo_length, f2, verD_lasts]; omega
      clear hroom f1 f2 f3
      obtain ⟨N, hN⟩ : ∃ N, N = l.length := ⟨_, rfl⟩
      have hNl : N ≤ 100 := by omega
      obtain ⟨M, hM⟩ : ∃ M : Nat, M = (max pick 0).toNat := ⟨_, rfl⟩
      obtain ⟨K, hK⟩ : ∃ K, K = M % (N + 1) := ⟨_, rfl⟩
      have hKlt : K < N + 1 := by rw [hK]; exact Nat.mod_lt _ (by omega)
      have hRD : ((verD.writes 1 (l.map fun b => [b])).crash [pick]).read 1 = pad [verWant l K] := ver_read l pick K (by rw [hK, hM, hN])
      have hMI : max pick 0 = (M : Int) := by rw [hM]; omega
      have hMb : M ≤ 9223372036854775807 := by
        have : pick ≤ 9223372036854775807 := by
          simp only [Lit.wf, Bool.and_eq_true, decide_eq_true_eq] at hp
          have a2 : IntKind.i64.max = 9223372036854775807 := rfl
          omega
        omega
      have hmod : Int.tmod (M : Int) ((N : Int) + 1) = (K : Int) := by
        rw [hK]
        have e : ((N : Int) + 1) = ((N + 1 : Nat) : Int) := by simp
        rw [e, Int.ofNat_tmod]
      rw [← hN]
      have hmod2 : (M : Int) % ((N : Int) + 1) = (K : Int) := by
        rw [hK]
        have e : ((N : Int) + 1) = ((N + 1 : Nat) : Int) := by simp
        rw [e]; first | exact (Int.natCast_emod _ _).symm | exact (Int.natCast_mod _ _).symm | rfl
      have HRD := Lib.hid hRD
      have HN := Lib.hid hN
      have HL2 := Lib.hid f2L
      have HA := Lib.hid hA
      clear hRD hM hK hk hN hA hlt q q2 hl hp f2L
      go_wp2_with fail
      refine (dk_crash p T _ _ [pick] 1 _ (HDr.out.alloc _) (ints_lit wr [pick] _ _ rfl) (fun b o e hs => by cases e; have := (HDr.out.base _ hs).2; omega) HRM.out).mono ?_
      rintro e w4 ⟨rfl, hd, hk⟩
      have hb : Below w.heap.size w w4 := HBr.out.trans ((((Below.refl _ _).alloc HBr.out.size _)).trans ((HDr.out.alloc _).keptBelow hk))
      have hA4 : Bytes w4 A l := HA.out.below hb
      have HD4 := Lib.hid hd; have HB4 := Lib.hid hb
      clear hd hk hb
      by_cases hK0 : K = 0
      · subst hK0
        have hW : verWant l 0 = 77 := rfl
        rw [hW] at HRD
        clear hA4 hW
        have c0 := secV_cell (heap_alloc_new w4 (.cells (secV (pad [77])).toArray 97)) 0 (by decide)
        have e0 : (((pad [(77 : UInt8)])[0]'(by decide)).toNat : Int) = 77 := by decide
        rw [e0] at c0
        (go_wp2_with (first | (go_at_call 31; refine (read_in p T _ 1 w4 HD4.out.at_ HL2.out).mono ?_; rintro e w5 ⟨rfl, rfl⟩; rw [HRD.out])); refine (known2_any _).mono ?_; rintro e w6 ⟨rfl, hb⟩; have HB6 := Lib.hid hb; clear hb; go_wp2_with fail; go_ret; exact ⟨rfl, (HB4.out.alloc HB4.out.size _).trans (HB6.out.mono (by simp; exact Nat.le_succ_of_le HB4.out.size))⟩)
      · have q5 : decide ((0 : Int) < (K : Int)) = true := by simp; omega
        have q6 : decide ((K : Int) ≤ 0) = false := by simp; omega
        obtain ⟨b, o, rfl, hbl, g⟩ := hA4.get (K - 1) (by rw [← HN.out]; omega)
        have q7 : ((K : Int) - 1).toNat = K - 1 := by omega
        have q8 : (K : Int) - 1 < (N : Int) := by omega
        have q9 : (0 : Int) ≤ (K : Int) - 1 := by omega
        have hW : verWant l K = l[K - 1]'(by rw [← HN.out]; omega) := by
          unfold verWant
          rw [if_neg hK0, List.getD_eq_getElem?_getD, List.getElem?_eq_getElem (by rw [← HN.out]; omega)]
          rfl
        obtain ⟨y, hy⟩ : ∃ y, y = l[K - 1]'(by rw [← HN.out]; omega) := ⟨_, rfl⟩
        rw [← hy] at g hW
        rw [hW] at HRD
        clear hA4 hW hy hK0
        have c0 := secV_cell (heap_alloc_new w4 (.cells (secV (pad [y])).toArray 97)) 0 (by simp [pad])
        have e0 : (((pad [y])[0]'(by simp [pad])).toNat : Int) = y.toNat := rfl
        rw [e0] at c0
        (go_wp2_with (first | (go_at_call 31; refine (read_in p T _ 1 w4 HD4.out.at_ HL2.out).mono ?_; rintro e w5 ⟨rfl, rfl⟩; rw [HRD.out])); refine (known2_any _).mono ?_; rintro e w6 ⟨rfl, hb⟩; have HB6 := Lib.hid hb; clear hb; go_wp2_with fail; go_ret; exact ⟨rfl, (HB4.out.alloc HB4.out.size _).trans (HB6.out.mono (by simp; exact Nat.le_succ_of_le HB4.out.size))⟩)
theorem versions_any (A : Option Addr) (l : List UInt8) (c : Nat) (pick : Int) (w : World) (hA : Bytes w A l) (hx : l.length ≤ 140737488351232) (hp : (Lit.int .i64 pick).wf = true) :
    Calls Try.prog 9 #[.slice A l.length c, .int .i64 pick] w fun e w' => e = .returned (.bool true) ∧ Below w.heap.size w w' := by
  by_cases h : 100 < l.length
  · exact versions_long A l c pick w h hx
  · exact versions_short A l c pick w hA (by omega) hp
end Go.Proofs.Ythbdlfkdemjpoaa
