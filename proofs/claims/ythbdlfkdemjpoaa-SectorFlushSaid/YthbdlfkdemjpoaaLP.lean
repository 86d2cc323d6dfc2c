/- The walk of the law SectorPlays: it returns true for every input. No condition. -/
import Derived.Test.YthbdlfkdemjpoaaR10
namespace Go.Proofs.Ythbdlfkdemjpoaa
open Go.RowKit Go.Maps

/-- What is held from round to round. -/
structure PlayInv (w wr : World) (p q N k : Nat) (S T : Nat → Prop) (D : DS) : Prop where
  two : Two w.heap.size wr p S q T D
  below : Below w.heap.size w wr
  waits : ∀ j, (D.waits j).length ≤ k
  wide : D.lasts.length = N
theorem PlayInv.step {w wr w' : World} {p q N k : Nat} {S S' T T' : Nat → Prop} {D : DS} (h : PlayInv w wr p q N k S T D) (x : AAct) (h2 : Two w.heap.size w' p S' q T' (D.actA x)) (hb : Below w.heap.size wr w') : PlayInv w w' p q N (k + 1) S' T' (D.actA x) :=
  ⟨h2, h.below.trans hb, DS.actA_waits_le h.waits, by rw [DS.actA_lasts_length]; exact h.wide⟩
theorem PlayInv.go {w wr w' : World} {p q N k : Nat} {S T : Nat → Prop} {D : DS} (h : PlayInv w wr p q N k S T D) (hb : Below wr.heap.size wr w') : PlayInv w w' p q N k S T D :=
  ⟨h.two.below hb, h.below.trans (hb.mono h.below.size), h.waits, h.wide⟩
theorem bytes_lo {w : World} {A : Option Addr} {l : List UInt8} (h : Bytes w A l) (hn : l ≠ []) (b o : Nat) (e : A = some ⟨b, o, none⟩) : b < w.heap.size := by
  rcases h with h | ⟨b', o', h1, h2, _⟩
  · exact absurd h hn
  · rw [h1] at e; cases e; exact h2
theorem ints_lo {w : World} {A : Option Addr} {l : List Int} (h : Ints w A l) (hn : l ≠ []) (b o : Nat) (e : A = some ⟨b, o, none⟩) : b < w.heap.size := by
  rcases h with h | ⟨b', o', h1, h2, _⟩
  · exact absurd h hn
  · rw [h1] at e; cases e; exact h2
theorem actIn_of {w wr : World} {x : AAct} {A1 A2 : Option Addr} (h1 : Bytes w A1 x.bytes) (h2 : Ints w A2 x.picks) (hok : x.Ok) (hb : Below w.heap.size w wr) : ActIn w.heap.size wr x A1 A2 :=
  ⟨h1.below hb, h2.below hb, bytes_lo h1, ints_lo h2, hok⟩
theorem DiskStart {w w1 w2 : World} {p q N : Nat} {S T : Nat → Prop} {w0 : World} (h0 : Below w.heap.size w w0) (hd : Dk w0.heap.size w1 p S (freshD N)) (hb1 : Below w0.heap.size w0 w1) (hx : Rk w1.heap.size w2 q T (freshD N)) (hb2 : Below w1.heap.size w1 w2) : PlayInv w w2 p q N 0 S T (freshD N) := by
  have s0 := h0.size; have s1 := hb1.size; have s2 := hb2.size
  refine ⟨⟨?_, ?_, fun k hS hT => ?_⟩, (h0.trans (hb1.mono s0)).trans (hb2.mono (Nat.le_trans s0 s1)), fun j => by simp [freshD], by simp [freshD]⟩
  · have := hd.below hb2
    exact ⟨this.at_, fun k hk => ⟨Nat.le_trans s0 (this.base k hk).1, (this.base k hk).2⟩, by omega⟩
  · exact ⟨hx.ok, hx.mem, fun k hk => ⟨Nat.le_trans (Nat.le_trans s0 s1) (hx.base k hk).1, (hx.base k hk).2⟩, by omega⟩
  · have := (hd.base k hS).2; have := (hx.base k hT).1; omega

set_option maxRecDepth 100000 in
set_option maxHeartbeats 4000000 in
theorem plays_in (n : Nat) (A : Option Addr) (l : List AAct) (c : Nat) (w : World) (hA : Acts w A l) (hx : l.length ≤ maxLen) (hok : ∀ x ∈ l, x.Ok) (hlong : longA l = false) (hn1 : 1 ≤ n) (hn2 : n ≤ 60) :
    Calls Try.prog 10 #[.int .i64 n, .slice A l.length c] w fun e w' => e = .returned (.bool true) ∧ Below w.heap.size w w' := by
  have HA := Lib.hid hA; have HOK := Lib.hid hok; have HX := Lib.hid hx
  have hc := long2_any A l c w HA.out HX.out HOK.out
  rw [hlong] at hc
  have hx' : (l.length : Int) ≤ 9223372036854775807 := by unfold maxLen at hx; omega
  have q0 : decide (60 < (n : Int)) = false := by simp; omega
  clear hA hok hx hlong
  go_enter Try.func10, Try.ntmps10
  go_wp2_with fail
  refine hc.mono ?_
  rintro e w0 ⟨rfl, hb⟩
  have HB0 := Lib.hid hb
  clear hb hc
  go_wp2_with fail
  refine (dk_new n w0 hn1 (by omega)).mono ?_
  rintro e w1 ⟨p, S, rfl, hd, hb⟩
  have HD1 := Lib.hid hd; have HB1 := Lib.hid hb
  clear hd hb
  go_wp2_with fail
  refine (rnew_ok n w1 hn1 (by omega)).mono ?_
  rintro e w2 ⟨q, T, rfl, hx2, hb⟩
  have HI2 := Lib.hid (DiskStart HB0.out HD1.out HB1.out hx2 hb)
  clear hx2 hb HD1 HB1 HB0
  go_wp2_with fail
  go_loopw [9] (fun i wr => ∃ (k : Nat) (S T : Nat → Prop) (D : DS), k ≤ l.length ∧ k ≤ 60 ∧ i = .int .i64 k ∧ Hid (PlayInv w wr p q n k S T D)) (fun i _ => 200 - (intOf i).toNat)
  case atStart => exact ⟨0, S, T, _, by omega, by omega, rfl, HI2⟩
  case round =>
    obtain ⟨k, S, T, D, hk, hk60, rfl, HI⟩ := hrel
    by_cases hlt : k < l.length ∧ k < 60
    · obtain ⟨hlt, h60⟩ := hlt
      have q1 : decide ((k : Int) < (l.length : Int)) = true := by simp; omega
      have q2 : decide ((k : Int) < 60) = true := by simp; omega
      obtain ⟨b, o, rfl, hbl, A1, c1, A2, c2, g0, g1, g2, g3, g4, g5⟩ := HA.out.get k hlt
      have HAI := Lib.hid (actIn_of g4 g5 (HOK.out _ (List.getElem_mem hlt)) HI.out.below)
      obtain ⟨x, hx⟩ : ∃ x, x = l[k] := ⟨_, rfl⟩
      rw [← hx] at g0 g1 g2 g3 HAI
      have e : ∀ o', wr.cell? ⟨b, o', none⟩ = w.cell? ⟨b, o', none⟩ := fun o' => World.cell?_of_block (HI.out.below.block b hbl)
      rw [← e] at g0 g1 g2 g3
      clear hx g4 g5 e
      have HRM : Hid (∀ j, (D.waits j).length ≤ 1000000) := Lib.hid fun j => Nat.le_trans (HI.out.waits j) (by omega)
      go_wp2_with fail
      refine (act2_any p S q T D x A1 A2 c1 c2 _ HI.out.two HAI.out HRM.out).mono ?_
      rintro e w5 ⟨S5, T5, rfl, h2, hb⟩
      have HI5 := Lib.hid (HI.out.step x h2 hb)
      clear h2 hb HI HAI HRM
      go_wp2_with fail
      refine (disks2_any p S5 q T5 _ _ HI5.out.two (fun j => Nat.le_trans (HI5.out.waits j) (by omega))).mono ?_
      rintro e w6 ⟨rfl, hb⟩
      have HI6 := Lib.hid (HI5.out.go hb)
      clear hb HI5
      go_wp2_with fail
      go_round
      · exact ⟨k + 1, S5, T5, _, by omega, by omega, by simp, HI6⟩
      · simp [intOf]; omega
    · have HB := Lib.hid HI.out.below
      clear HI HI2 HA HOK HX
      by_cases hlt1 : k < l.length
      · have q1 : decide ((k : Int) < (l.length : Int)) = true := by simp; omega
        have q2 : decide ((k : Int) < 60) = false := by simp; omega
        go_wp2_with fail
        (refine (known2_any _).mono ?_; rintro e w8 ⟨rfl, hb⟩; have HB8 := Lib.hid hb; clear hb; go_wp2_with fail; go_ret; exact ⟨rfl, HB.out.trans (HB8.out.mono HB.out.size)⟩)
      · have q1 : decide ((k : Int) < (l.length : Int)) = false := by simp; omega
        go_wp2_with fail
        (refine (known2_any _).mono ?_; rintro e w8 ⟨rfl, hb⟩; have HB8 := Lib.hid hb; clear hb; go_wp2_with fail; go_ret; exact ⟨rfl, HB.out.trans (HB8.out.mono HB.out.size)⟩)
theorem plays_bad (n : Int) (A : Option Addr) (l : List AAct) (c : Nat) (w : World) (hA : Acts w A l) (hx : l.length ≤ maxLen) (hok : ∀ x ∈ l, x.Ok) (hlong : longA l = false) (hn1 : n < 1) :
    Calls Try.prog 10 #[.int .i64 n, .slice A l.length c] w fun e w' => e = .returned (.bool true) ∧ Below w.heap.size w w' := by
  have hc := long2_any A l c w hA hx hok
  rw [hlong] at hc
  have q0 : decide (60 < n) = false := by simp; omega
  have HX := Lib.hid hx
  have hx' : (l.length : Int) ≤ 9223372036854775807 := by unfold maxLen at hx; omega
  clear hA hok hx hlong
  go_enter Try.func10, Try.ntmps10
  go_wp2_with fail
  refine hc.mono ?_
  rintro e w0 ⟨rfl, hb⟩
  have HB := Lib.hid hb
  clear hb hc
  go_wp2_with fail
  refine (new_bad n w0 (.inl hn1)).mono ?_
  rintro e w1 ⟨rfl, rfl⟩
  go_wp2_with fail
  refine (rnew_bad n w0 (.inl hn1)).mono ?_
  rintro e w2 ⟨rfl, rfl⟩
  go_wp2_with fail
  go_loopw [9] (fun i wr => i = .int .i64 0 ∧ wr = w0) (fun i _ => 200 - (intOf i).toNat)
  case atStart => exact ⟨rfl, rfl⟩
  case round =>
    obtain ⟨rfl, rfl⟩ := hrel
    by_cases hlt1 : (0 : Int) < l.length
    · have q1 : decide ((0 : Int) < (l.length : Int)) = true := decide_eq_true hlt1
      go_wp2_with fail
      (refine (known2_any _).mono ?_; rintro e w8 ⟨rfl, hb⟩; have HB8 := Lib.hid hb; clear hb; go_wp2_with fail; go_ret; exact ⟨rfl, HB.out.trans (HB8.out.mono HB.out.size)⟩)
    · have q1 : decide ((0 : Int) < (l.length : Int)) = false := decide_eq_false hlt1
      go_wp2_with fail
      (refine (known2_any _).mono ?_; rintro e w8 ⟨rfl, hb⟩; have HB8 := Lib.hid hb; clear hb; go_wp2_with fail; go_ret; exact ⟨rfl, HB.out.trans (HB8.out.mono HB.out.size)⟩)
theorem plays_out (n : Int) (A : Option Addr) (l : List AAct) (c : Nat) (w : World) (hA : Acts w A l) (hx : l.length ≤ maxLen) (hok : ∀ x ∈ l, x.Ok) (h : longA l = true ∨ 60 < n) :
    Calls Try.prog 10 #[.int .i64 n, .slice A l.length c] w fun e w' => e = .returned (.bool true) ∧ Below w.heap.size w w' := by
  have HA := Lib.hid hA; have HOK := Lib.hid hok; have HX := Lib.hid hx
  clear hA hok hx
  obtain ⟨lg, hlg⟩ : ∃ b, longA l = b := ⟨_, rfl⟩
  have hc := long2_any A l c w HA.out HX.out HOK.out
  rw [hlg] at hc h
  cases lg with
  | true =>
    go_enter Try.func10, Try.ntmps10
    go_wp2_with fail
    refine hc.mono ?_
    rintro e w1 ⟨rfl, hb⟩
    have HB := Lib.hid hb
    clear hb
    go_wp2_with fail
    go_ret
    exact ⟨rfl, HB.out⟩
  | false =>
    have q : decide (60 < n) = true := by simp at h; simpa using h
    go_enter Try.func10, Try.ntmps10
    go_wp2_with fail
    refine hc.mono ?_
    rintro e w1 ⟨rfl, hb⟩
    have HB := Lib.hid hb
    clear hb
    go_wp2_with fail
    go_ret
    exact ⟨rfl, HB.out⟩
theorem plays_all (n : Int) (A : Option Addr) (l : List AAct) (c : Nat) (w : World) (hA : Acts w A l) (hx : l.length ≤ maxLen) (hok : ∀ x ∈ l, x.Ok) :
    Calls Try.prog 10 #[.int .i64 n, .slice A l.length c] w fun e w' => e = .returned (.bool true) ∧ Below w.heap.size w w' := by
  by_cases h : longA l = true ∨ 60 < n
  · exact plays_out n A l c w hA hx hok h
  · have hl : longA l = false := by cases hl : longA l <;> simp_all
    by_cases h1 : n < 1
    · exact plays_bad n A l c w hA hx hok hl h1
    · obtain ⟨m, rfl⟩ : ∃ m : Nat, n = m := ⟨n.toNat, by omega⟩
      have h2 : ¬ (60 : Int) < (m : Int) := fun h' => h (.inr h')
      exact plays_in m A l c w hA hx hok hl (by omega) (by omega)
end Go.Proofs.Ythbdlfkdemjpoaa
