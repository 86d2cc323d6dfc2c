/- The walk of the law SectorReads: it returns true for every input. No condition. -/
import Derived.Test.YthbdlfkdemjpoaaP0
import Derived.BigQuiet
import Derived.StillTailTactics
import Derived.Laws.BytesArg
import Derived.Shelf.Bytes.SlSmallAll
namespace Go.Proofs.Ythbdlfkdemjpoaa
open Go.RowKit Go.Maps

theorem conv_bytes (w : World) (A : Option Addr) (l : List UInt8) (c : Nat) (h : Bytes w A l) : (convert 22 9 (.slice A l.length c)).run Try.prog w = .ok (.string ⟨l.toArray⟩) w := by
  rcases h with rfl | ⟨b, o, rfl, hl, hc⟩
  · exact run_convert_bytes_zero w 22 5 Try.underlying22 Try.underlying5 A c 9 Try.underlying9
  · have := run_convert_bytes_arg (P := Try.prog) w 22 5 Try.underlying22 Try.underlying5 b o l.length c (l.map fun x => (x.toNat : Int)) (by simp) (fun i hi => by
      rw [hc i (.int .u8 (l[i].toNat : Int)) (by simp [secV, hi])]
      simp [List.getD_eq_getElem?_getD, hi]) 9 Try.underlying9
    rw [this]
    have e : strOfNums (l.map fun x => (x.toNat : Int)) = ⟨l.toArray⟩ := by simp [strOfNums, Function.comp_def]
    rw [e]

set_option maxRecDepth 100000 in
set_option maxHeartbeats 2000000 in
theorem reads_out (i : Int) (A B : Option Addr) (l m : List UInt8) (c d : Nat) (w : World) (hx : l.length ≤ 140737488351232) (hy : m.length ≤ 140737488351232) (h : 64 < l.length ∨ 64 < m.length ∨ i < 0 ∨ 9 < i) :
    Calls Try.prog 8 #[.int .i64 i, .slice A l.length c, .slice B m.length d] w fun e w' => e = .returned (.bool true) ∧ Below w.heap.size w w' := by
  by_cases h1 : 64 < l.length
  · have q : decide ((64 : Int) < (l.length : Int)) = true := by simp; omega
    go_enter Try.func8, Try.ntmps8
    go_wp2_with fail
    go_ret
    exact ⟨rfl, Below.refl _ _⟩
  · have q : decide ((64 : Int) < (l.length : Int)) = false := by simp; omega
    by_cases h2 : 64 < m.length
    · have q2 : decide ((64 : Int) < (m.length : Int)) = true := by simp; omega
      go_enter Try.func8, Try.ntmps8
      go_wp2_with fail
      go_ret
      exact ⟨rfl, Below.refl _ _⟩
    · have q2 : decide ((64 : Int) < (m.length : Int)) = false := by simp; omega
      by_cases h3 : i < 0
      · have q3 : decide (i < 0) = true := by simpa using h3
        go_enter Try.func8, Try.ntmps8
        go_wp2_with fail
        go_ret
        exact ⟨rfl, Below.refl _ _⟩
      · have q3 : decide (i < 0) = false := by simp; omega
        have q4 : decide (9 < i) = true := by simp; omega
        go_enter Try.func8, Try.ntmps8
        go_wp2_with fail
        go_ret
        exact ⟨rfl, Below.refl _ _⟩

/-- The disk of which a sector was written twice. -/
def rdD (i : Nat) (l m : List UInt8) : DS := ((freshD 10).write i l).write i m
theorem rd_read (i : Nat) (l m : List UInt8) : (rdD i l m).read i = pad m := by
  simp [rdD, DS.read, DS.write, DS.put, DS.burn]
theorem rd_waiting (i : Nat) (l m : List UInt8) (hi : i < 10) : (rdD i l m).waiting = [i] := by
  refine DS.waiting_one ?_ (fun j hj => ?_) ?_
  · simpa [rdD, DS.write, DS.put, DS.burn, freshD] using hi
  · simp [rdD, DS.write, DS.put, DS.burn, freshD, hj]
  · simp [rdD, DS.write, DS.put, DS.burn, freshD]
theorem rd_lasts (i : Nat) (l m : List UInt8) : (rdD i l m).lasts.length = 10 := by
  simp [rdD, DS.write, DS.put, DS.burn, freshD]

set_option maxRecDepth 100000 in
set_option maxHeartbeats 4000000 in
theorem reads_in (i : Nat) (A B : Option Addr) (l m : List UInt8) (c d : Nat) (w : World) (hA : Bytes w A l) (hB : Bytes w B m) (hl : l.length ≤ 64) (hm : m.length ≤ 64) (hi : i ≤ 9) :
    Calls Try.prog 8 #[.int .i64 i, .slice A l.length c, .slice B m.length d] w fun e w' => e = .returned (.bool true) ∧ Below w.heap.size w w' := by
  have q1 : decide ((64 : Int) < (l.length : Int)) = false := by simp; omega
  have q2 : decide ((64 : Int) < (m.length : Int)) = false := by simp; omega
  have q3 : decide ((i : Int) < 0) = false := by simp
  have q4 : decide (9 < (i : Int)) = false := by simp; omega
  go_enter Try.func8, Try.ntmps8
  go_wp2_with fail
  refine (dk_new 10 w (by omega) (by omega)).mono ?_
  rintro e w1 ⟨p, S, rfl, hd, hb⟩
  have HA1 := Lib.hid (hA.below hb); have HB1 := Lib.hid (hB.below hb)
  have HD := Lib.hid hd; have HB := Lib.hid hb
  clear hd hb
  go_wp2_with fail
  refine (dk_write p S _ i _ l _ w1 HD.out (by decide) (by simp [freshD]; omega) HA1.out hl (by simp [freshD])).mono ?_
  rintro e w2 ⟨S2, rfl, hd, hk, hS⟩
  have hb : Below w.heap.size w w2 := HB.out.trans (HD.out.keptBelow hk)
  have HB2 := Lib.hid (hB.below hb)
  have HD2 := Lib.hid hd; have HBb := Lib.hid hb
  clear hd hk hS hb
  go_wp2_with fail
  refine (dk_write p S2 _ i _ m _ w2 HD2.out (by simp [DS.write, DS.put, DS.burn, freshD]) (by simp [DS.write, DS.put, DS.burn, freshD]; omega) HB2.out hm (by simp [DS.write, DS.put, DS.burn, freshD])).mono ?_
  rintro e w3 ⟨S3, rfl, hd, hk, hS⟩
  have hb : Below w.heap.size w w3 := HBb.out.trans (HD2.out.keptBelow hk)
  change Dk w.heap.size w3 p S3 (rdD i l m) at hd
  have HB3 := Lib.hid (hB.below hb)
  have HD3 := Lib.hid hd; have HBc := Lib.hid hb
  clear hd hk hS hb HD HD2 HB2 HA1 HB1 HB HBb
  go_wp2_with (go_at_call 31; refine (read_in p S3 _ i w3 HD3.out.at_ (by rw [rd_lasts]; omega)).mono ?_; rintro e w4 ⟨rfl, rfl⟩; rw [rd_read])
  have hpl : (pad m).length = 64 := pad_length hm
  obtain ⟨w4, hw4⟩ : ∃ w4, w4 = w3.alloc (.cells (secV (pad m)).toArray 97) := ⟨_, rfl⟩
  have hS3 : ¬ S3 w3.heap.size := fun hs => by have := (HD3.out.base _ hs).2; omega
  have ho4 : w4.heap[w3.heap.size]? = some (.cells (secV (pad m)).toArray 97) := by rw [hw4]; exact heap_alloc_new _ _
  have hD4 : Dk w.heap.size w4 p S3 (rdD i l m) := by rw [hw4]; exact HD3.out.alloc _
  have hb4 : Below w.heap.size w w4 := by rw [hw4]; exact HBc.out.alloc HBc.out.size _
  have hB4 : Bytes w4 B m := HB3.out.below (by rw [hw4]; exact (Below.refl _ _).alloc (Nat.le_refl _) _)
  have hx4 : Bytes w4 (some ⟨w3.heap.size, 0, none⟩) m := .inr ⟨_, _, rfl, lt_of ho4, fun j v hv => by
    rw [Nat.zero_add, cell_of ho4, List.getElem?_toArray, secV_pad]
    rw [List.getElem?_append_left (List.getElem?_eq_some_iff.1 hv).1]
    exact hv⟩
  have hh : w.heap.size ≤ w3.heap.size := HBc.out.size
  rw [← hw4]
  clear hw4 HD3 HBc HB3
  obtain ⟨h, hhe⟩ : ∃ h, h = w3.heap.size := ⟨_, rfl⟩
  rw [← hhe] at hS3 ho4 hx4 hh ⊢
  clear hhe
  have k1 : ∀ n, (convert 22 9 (.slice (some ⟨h, 0, none⟩) m.length 64)).run Try.prog (w4.drewN n) = .ok (.string ⟨m.toArray⟩) (w4.drewN n) := fun n => conv_bytes _ _ _ _ (hx4.fix (Nat.le_refl _) fun _ _ _ _ => rfl)
  have k2 : ∀ n, (convert 22 9 (.slice B m.length d)).run Try.prog (w4.drewN n) = .ok (.string ⟨m.toArray⟩) (w4.drewN n) := fun n => conv_bytes _ _ _ _ (hB4.fix (Nat.le_refl _) fun _ _ _ _ => rfl)
  have HO := Lib.hid ho4; have HD := Lib.hid hD4; have HB := Lib.hid hb4
  have q5 : (m.length : Int) ≤ 64 := by omega
  clear ho4 hD4 hb4 hB4 hx4
  go_quiet (fail)
  have HO5 : Hid ((w4.drewN nq).heap[h]? = some (.cells (secV (pad m)).toArray 97)) := HO
  have HD5 : Hid (Dk w.heap.size (w4.drewN nq) p S3 (rdD i l m)) := Lib.hid (HD.out.drewN nq)
  have HB5 : Hid (Below w.heap.size w (w4.drewN nq)) := Lib.hid ⟨HB.out.os, HB.out.tape, HB.out.output, HB.out.size, HB.out.block⟩
  obtain ⟨w5, hw5⟩ : ∃ w5, w5 = w4.drewN nq := ⟨_, rfl⟩
  rw [← hw5] at HO5 HD5 HB5 ⊢
  clear hw5 k1 k2 HO HD HB q1 q2 q3 q4 hA hB
  go_wp2_with fail
  go_loopw [11] (fun i wr => wr = w5 ∧ ∃ k : Nat, m.length ≤ k ∧ k ≤ 64 ∧ i = .int .i64 k) (fun i _ => 200 - (intOf i).toNat)
  case atStart => exact ⟨rfl, m.length, by omega, by omega, rfl⟩
  case round =>
    obtain ⟨rfl, k, hk1, hk2, rfl⟩ := hrel
    by_cases hlt : k < 64
    · have q2 : decide ((k : Int) < 64) = true := by simp; omega
      have g := secV_cell HO5.out k (by omega)
      have e0 : ((pad m)[k]'(by omega)) = 0 := by simp [pad, List.getElem_append_right hk1]
      rw [e0] at g
      change wr.cell? ⟨h, k, none⟩ = some (.int .u8 0) at g
      go_wp2_with fail
      go_round
      · exact ⟨trivial, k + 1, by omega, by omega, by simp⟩
      · simp [intOf]; omega
    · have q2 : decide ((k : Int) < 64) = false := by simp; omega
      have g := secV_cell HO5.out 0 (by omega)
      have gf := frozen_of HO5.out 0
      obtain ⟨y, hy⟩ : ∃ y, y = (pad m)[0]'(by omega) := ⟨_, rfl⟩
      rw [← hy] at g
      have HY := Lib.hid hy
      clear hy
      obtain ⟨z, hz⟩ : ∃ z : Int, ((y.toNat : Int) + 1) % 256 = z := ⟨_, rfl⟩
      have hz2 : (z - 1) % 256 = (y.toNat : Int) := by have := y.toNat_lt; omega
      have HZ2 := Lib.hid hz2; have HZ := Lib.hid hz
      clear hz2 hz
      go_wp2_with fail
      rw [HZ.out]
      have hD6 : Dk w.heap.size (wr.setCell ⟨h, 0, none⟩ (.int .u8 z)) p S3 (rdD i l m) := HD5.out.setCell _ _ hS3
      have hb6 : Below w.heap.size w (wr.setCell ⟨h, 0, none⟩ (.int .u8 z)) := HB5.out.setCell (show w.heap.size ≤ (⟨h, 0, none⟩ : Addr).block from hh) _
      have g6 : (wr.setCell ⟨h, 0, none⟩ (.int .u8 z)).cell? ⟨h, 0, none⟩ = some (.int .u8 z) := World.cell?_setCell_same _ _ _ g
      have hh6 : h < (wr.setCell ⟨h, 0, none⟩ (.int .u8 z)).heap.size := by have := lt_of HO5.out; simpa [World.setCell] using this
      obtain ⟨w6, hw6⟩ : ∃ w6, w6 = wr.setCell ⟨h, 0, none⟩ (.int .u8 z) := ⟨_, rfl⟩
      rw [← hw6] at hD6 hb6 g6 hh6 ⊢
      have HD6 := Lib.hid hD6; have HB6 := Lib.hid hb6; have HG6 := Lib.hid g6
      clear hw6 hD6 hb6 HD5 HB5 g g6
      refine (read_in p S3 _ i w6 HD6.out.at_ (by rw [rd_lasts]; omega)).mono ?_
      rintro e w7 ⟨rfl, rfl⟩
      rw [rd_read]
      have ho7 : (w6.alloc (.cells (secV (pad m)).toArray 97)).heap[w6.heap.size]? = some (.cells (secV (pad m)).toArray 97) := heap_alloc_new _ _
      have hD7 : Dk w.heap.size (w6.alloc (.cells (secV (pad m)).toArray 97)) p S3 (rdD i l m) := HD6.out.alloc _
      have hb7 : Below w.heap.size w (w6.alloc (.cells (secV (pad m)).toArray 97)) := HB6.out.alloc HB6.out.size _
      have g7 : (w6.alloc (.cells (secV (pad m)).toArray 97)).cell? ⟨h, 0, none⟩ = some (.int .u8 z) := by rw [World.cell?_of_block (w := w6) (Below.heap_alloc _ _ _ hh6)]; exact HG6.out
      have gg := secV_cell ho7 0 (by omega)
      rw [← HY.out] at gg
      have hs7 : w6.heap.size < (w6.alloc (.cells (secV (pad m)).toArray 97)).heap.size := by simp
      obtain ⟨w7, hw7⟩ : ∃ w7, w7 = w6.alloc (.cells (secV (pad m)).toArray 97) := ⟨_, rfl⟩
      rw [← hw7] at ho7 hD7 hb7 g7 gg hs7 ⊢
      have HD7 := Lib.hid hD7; have HB7 := Lib.hid hb7; have HG7 := Lib.hid g7; have HGG := Lib.hid gg
      obtain ⟨h2, hh2⟩ : ∃ h2, h2 = w6.heap.size := ⟨_, rfl⟩
      rw [← hh2] at hh6 HGG hs7 ⊢
      clear hw7 hD7 hb7 g7 gg ho7 HD6 HB6 HG6 hh2 HY
      go_wp2_with fail
      refine (waiting_any p S3 _ w7 HD7.out.at_).mono ?_
      rintro e w8 ⟨v, rfl, hown, hb⟩
      rw [rd_waiting i l m (by omega)] at hown
      obtain ⟨V, cap, gw, rfl, gc⟩ : ∃ V cap gw, v = .slice V 1 cap ∧ V = some ⟨gw, 0, none⟩ ∧ w8.cell? ⟨gw, 0, none⟩ = some (.int .i64 i) := by
        rcases hown.2 with ⟨_, h0⟩ | ⟨g, cap, cur, rfl, _, ho, _, _, _, ht⟩
        · simp at h0
        · refine ⟨_, _, g, rfl, rfl, ?_⟩
          rw [cell_of ho, ← Array.getElem?_toList]
          have h1 : (cur.toList.take (1 * 1))[0]? = some (.int .i64 i) := by
            have e1 : cur.toList.take (1 * 1) = [Value.int .i64 i] := ht
            rw [e1]; rfl
          simpa [List.getElem?_take] using h1
      have hg8 : w8.cell? ⟨h, 0, none⟩ = some (.int .u8 z) := by rw [World.cell?_of_block (w := w7) (hb.block h (Nat.lt_trans hh6 hs7))]; exact HG7.out
      have hy8 : w8.cell? ⟨h2, 0, none⟩ = some (.int .u8 (y.toNat : Int)) := by rw [World.cell?_of_block (w := w7) (hb.block h2 hs7)]; exact HGG.out
      have hb8 : Below w.heap.size w w8 := HB7.out.trans (hb.mono HB7.out.size)
      have HB8 := Lib.hid hb8
      have kz : IntKind.u8.wrap (z - 1) = (y.toNat : Int) := by
        have h1 : IntKind.u8.wrap (z - 1) = (z - 1) % 256 := by simp [IntKind.wrap_u8]
        rw [h1, HZ2.out]
      clear hown hb hb8 HD7 HB7 HG7 HGG HZ2 q2 HO5
      go_wp2_with fail
      go_still_tail 26, (by kernel_rfl)
      have hd9 : Below w.heap.size w ({ w8 with drawn := w8.drawn + 1 } : World) := ⟨HB8.out.os, HB8.out.tape, HB8.out.output, HB8.out.size, HB8.out.block⟩
      have HB9 := Lib.hid hd9
      clear hd9 HB8 gc hg8 hy8
      obtain ⟨w9, hw9⟩ : ∃ w9, w9 = ({ w8 with drawn := w8.drawn + 1 } : World) := ⟨_, rfl⟩
      rw [← hw9] at HB9 ⊢
      clear hw9
      go_wp2_with fail
      refine (known2_any _).mono ?_
      rintro e w10 ⟨rfl, hb⟩
      have HB10 := Lib.hid hb
      clear hb
      go_wp2_with fail
      go_ret
      exact ⟨rfl, HB9.out.trans (HB10.out.mono HB9.out.size)⟩
theorem reads_any (i : Int) (A B : Option Addr) (l m : List UInt8) (c d : Nat) (w : World) (hA : Bytes w A l) (hB : Bytes w B m) (hx : l.length ≤ 140737488351232) (hy : m.length ≤ 140737488351232) :
    Calls Try.prog 8 #[.int .i64 i, .slice A l.length c, .slice B m.length d] w fun e w' => e = .returned (.bool true) ∧ Below w.heap.size w w' := by
  by_cases h : 64 < l.length ∨ 64 < m.length ∨ i < 0 ∨ 9 < i
  · exact reads_out i A B l m c d w hx hy h
  · obtain ⟨n, rfl⟩ : ∃ n : Nat, i = n := ⟨i.toNat, by omega⟩
    exact reads_in n A B l m c d w hA hB (by omega) (by omega) (by omega)
end Go.Proofs.Ythbdlfkdemjpoaa
