/- The sector package's functions told for a disk whose blocks are bounded, and the laws' known. No condition. -/
import Derived.Test.YthbdlfkdemjpoaaS9
namespace Go.Proofs.Ythbdlfkdemjpoaa
open Go.RowKit Go.Maps

/-- A disk all of whose blocks lie from B on. -/
structure Dk (B : Nat) (w : World) (p : Nat) (S : Nat → Prop) (D : DS) : Prop where
  at_ : DiskAt w p S D
  base : ∀ k, S k → B ≤ k ∧ k < w.heap.size
  low : B ≤ w.heap.size
theorem Dk.fix {B : Nat} {w w' : World} {p : Nat} {S : Nat → Prop} {D : DS} (h : Dk B w p S D) (hs : w.heap.size ≤ w'.heap.size) (hm : ∀ k, S k → k < w.heap.size → w'.heap[k]? = w.heap[k]?) : Dk B w' p S D :=
  ⟨h.at_.fix hm, fun k hk => ⟨(h.base k hk).1, Nat.lt_of_lt_of_le (h.base k hk).2 hs⟩, Nat.le_trans h.low hs⟩
theorem Dk.alloc {B : Nat} {w : World} {p : Nat} {S : Nat → Prop} {D : DS} (h : Dk B w p S D) (o : Obj) : Dk B (w.alloc o) p S D := h.fix (by simp) fun _ _ hk => Below.heap_alloc _ _ _ hk
theorem Dk.drewN {B : Nat} {w : World} {p : Nat} {S : Nat → Prop} {D : DS} (h : Dk B w p S D) (n : Nat) : Dk B (w.drewN n) p S D := h.fix (Nat.le_refl _) fun _ _ _ => rfl
theorem Dk.below {B : Nat} {w w' : World} {p : Nat} {S : Nat → Prop} {D : DS} (h : Dk B w p S D) (hb : Below w.heap.size w w') : Dk B w' p S D := h.fix hb.size fun k _ hk => hb.block k hk
theorem Dk.setCell {B : Nat} {w : World} {p : Nat} {S : Nat → Prop} {D : DS} (h : Dk B w p S D) (a : Addr) (u : Value) (ha : ¬ S a.block) : Dk B (w.setCell a u) p S D :=
  h.fix (by simp [World.setCell]) fun k hk _ => Below.heap_setCell _ _ _ _ (fun e => ha (e ▸ hk))
theorem Dk.kept {B : Nat} {w w' : World} {p : Nat} {S T : Nat → Prop} {D : DS} (h : Dk B w p S D) (hk : Kept T w w') (hd : ∀ k, S k → ¬ T k) : Dk B w' p S D := h.fix hk.size fun k hS hl => hk.block k hl (hd k hS)
theorem Dk.ok {B : Nat} {w : World} {p : Nat} {S : Nat → Prop} {D : DS} (h : Dk B w p S D) : D.Ok := h.at_.ok
theorem Dk.keptBelow {B : Nat} {w w' : World} {p : Nat} {S : Nat → Prop} {D : DS} (h : Dk B w p S D) (hk : Kept S w w') : Below B w w' := hk.below h.low fun i hi => (h.base i hi).1

theorem dk_new (n : Nat) (w : World) (h1 : 1 ≤ n) (h2 : n ≤ 4096) : Calls Try.prog 21 #[.int .i64 n] w fun e w' => ∃ p S, e = .returned (.tuple #[.pointer (some ⟨p, 0, none⟩), .int .i64 0]) ∧ Dk w.heap.size w' p S (freshD n) ∧ Below w.heap.size w w' :=
  (new_ok n w h1 h2).mono fun _ _ ⟨p, he, hd, hb⟩ => ⟨p, _, he, ⟨hd.tight, fun _ hk => hk, hb.size⟩, hb⟩
theorem dk_write {B : Nat} (p : Nat) (S : Nat → Prop) (D : DS) (i : Nat) (A : Option Addr) (l : List UInt8) (c : Nat) (w : World) (h : Dk B w p S D) (hf : D.fuse ≠ 0) (hi : i < D.lasts.length) (hA : Bytes w A l) (hl : l.length ≤ 64) (hroom : (D.waits i).length ≤ 1000000) :
    Calls Try.prog 23 #[.pointer (some ⟨p, 0, none⟩), .int .i64 i, .slice A l.length c] w fun e w' => ∃ S', e = .returned (.int .i64 0) ∧ Dk B w' p S' (D.write i l) ∧ Kept S w w' ∧ ∀ k, S' k → S k ∨ w.heap.size ≤ k :=
  (write_ok p S D i A l c w h.at_ hf hi hA hl hroom).mono fun _ _ ⟨he, hd, hk⟩ => ⟨_, he, ⟨hd.tight, fun k hk' => ⟨hk'.1.elim (fun h1 => (h.base k h1).1) (fun h1 => Nat.le_trans h.low h1), hk'.2⟩, Nat.le_trans h.low hk.size⟩, hk, fun _ hk' => hk'.1⟩
theorem dk_crashN {B : Nat} (p : Nat) (S : Nat → Prop) (D : DS) (A : Option Addr) (picks : List Int) (c : Nat) (w : World) (h : Dk B w p S D) (hA : Ints w A picks) (hAS : picks ≠ [] → ∀ b o, A = some ⟨b, o, none⟩ → ¬ S b) (hroom : ∀ i, (D.waits i).length ≤ 1000000) :
    Calls Try.prog 36 #[.pointer (some ⟨p, 0, none⟩), .slice A picks.length c] w fun e w' => e = .returned (.tuple #[]) ∧ Dk B w' p S (D.crash picks) ∧ Kept S w w' :=
  (crash_anyN p S D A picks c w h.at_ hA hAS hroom).mono fun _ _ ⟨he, hd, hk⟩ => ⟨he, ⟨hd, fun k hk' => ⟨(h.base k hk').1, Nat.lt_of_lt_of_le (h.base k hk').2 hk.size⟩, Nat.le_trans h.low hk.size⟩, hk⟩
theorem dk_crash {B : Nat} (p : Nat) (S : Nat → Prop) (D : DS) (A : Option Addr) (picks : List Int) (c : Nat) (w : World) (h : Dk B w p S D) (hA : Ints w A picks) (hAS : ∀ b o, A = some ⟨b, o, none⟩ → ¬ S b) (hroom : ∀ i, (D.waits i).length ≤ 1000000) :
    Calls Try.prog 36 #[.pointer (some ⟨p, 0, none⟩), .slice A picks.length c] w fun e w' => e = .returned (.tuple #[]) ∧ Dk B w' p S (D.crash picks) ∧ Kept S w w' :=
  dk_crashN p S D A picks c w h hA (fun _ => hAS) hroom
theorem dk_flush {B : Nat} (p : Nat) (S : Nat → Prop) (D : DS) (w : World) (h : Dk B w p S D) (hf : D.fuse ≠ 0) (hroom : ∀ i, (D.waits i).length ≤ 1000000) :
    Calls Try.prog 35 #[.pointer (some ⟨p, 0, none⟩)] w fun e w' => e = .returned (.int .i64 0) ∧ Dk B w' p S D.flush ∧ Kept S w w' :=
  (flush_ok p S D w h.at_ hf hroom).mono fun _ _ ⟨he, hd, hk⟩ => ⟨he, ⟨hd, fun k hk' => ⟨(h.base k hk').1, Nat.lt_of_lt_of_le (h.base k hk').2 hk.size⟩, Nat.le_trans h.low hk.size⟩, hk⟩
theorem dk_fuse {B : Nat} (p : Nat) (S : Nat → Prop) (D : DS) (n : Int) (w : World) (h : Dk B w p S D) (hn : n ≤ 9223372036854775807) :
    Calls Try.prog 40 #[.pointer (some ⟨p, 0, none⟩), .int .i64 n] w fun e w' => e = .returned (.tuple #[]) ∧ Dk B w' p S { D with fuse := if n < -1 then -1 else n } ∧ Kept S w w' :=
  (fuse_any p S D n w h.at_ hn).mono fun _ _ ⟨he, hd, hk⟩ => ⟨he, ⟨hd, fun k hk' => ⟨(h.base k hk').1, Nat.lt_of_lt_of_le (h.base k hk').2 hk.size⟩, Nat.le_trans h.low hk.size⟩, hk⟩

theorem bytes_lit (w : World) (l : List UInt8) (cs : Array Value) (t : TypeId) (h : cs.toList = secV l) : Bytes (w.alloc (.cells cs t)) (some ⟨w.heap.size, 0, none⟩) l := by
  refine .inr ⟨_, _, rfl, by simp, fun j v hv => ?_⟩
  rw [Nat.zero_add, cell_of (heap_alloc_new w _), ← Array.getElem?_toList, h]
  exact hv
theorem ints_lit (w : World) (l : List Int) (cs : Array Value) (t : TypeId) (h : cs.toList = l.map (Value.int .i64)) : Ints (w.alloc (.cells cs t)) (some ⟨w.heap.size, 0, none⟩) l := by
  refine .inr ⟨_, _, rfl, by simp, fun j v hv => ?_⟩
  rw [Nat.zero_add, cell_of (heap_alloc_new w _), ← Array.getElem?_toList, h]
  exact hv
theorem secV_cell {w : World} {g : Nat} {s : Sec} {t : TypeId} {fr : Nat × Nat} (h : w.heap[g]? = some (.cells (secV s).toArray t fr)) (j : Nat) (hj : j < s.length) : w.cell? ⟨g, j, none⟩ = some (.int .u8 (s[j].toNat : Int)) := by
  rw [cell_of h]
  simp [secV, hj]

theorem write_waits_le {D : DS} {i : Nat} {l : List UInt8} {n : Nat} (h : ∀ j, (D.waits j).length ≤ n) : ∀ j, ((D.write i l).waits j).length ≤ n + 1 := by
  intro j
  show ((D.put i (pad l)).waits j).length ≤ n + 1
  simp only [DS.put]
  split
  · have := h i; simp; omega
  · have := h j; omega

set_option maxRecDepth 100000 in
set_option maxHeartbeats 1000000 in
theorem known2_any (w : World) : Calls Try.prog 34 #[] w fun e w' => e = .returned (.bool true) ∧ Below w.heap.size w w' := by
  go_enter Try.func34, Try.ntmps34
  go_wp2_with fail
  refine (dk_new 4 w (by omega) (by omega)).mono ?_
  rintro e w1 ⟨p, S, rfl, hd, hb⟩
  have HD := Lib.hid hd; have HB := Lib.hid hb
  clear hd hb
  go_wp2_with fail
  refine (dk_write p S _ 0 _ [1] 1 _ (HD.out.alloc _) (by decide) (by decide) (bytes_lit w1 [1] _ _ rfl) (by decide) (by decide)).mono ?_
  rintro e w2 ⟨S2, rfl, hd, hk, hS⟩
  have hb : Below w.heap.size w w2 := HB.out.trans ((((Below.refl _ _).alloc HB.out.size _)).trans ((HD.out.alloc _).keptBelow hk))
  have HD2 := Lib.hid hd; have HB2 := Lib.hid hb
  clear hd hk hS hb
  go_wp2_with fail
  refine (dk_write p S2 _ 0 _ [2] 1 _ (HD2.out.alloc _) (by decide) (by decide) (bytes_lit w2 [2] _ _ rfl) (by decide) (by decide)).mono ?_
  rintro e w3 ⟨S3, rfl, hd, hk, hS⟩
  have hb : Below w.heap.size w w3 := HB2.out.trans ((((Below.refl _ _).alloc HB2.out.size _)).trans ((HD2.out.alloc _).keptBelow hk))
  have HD3 := Lib.hid hd; have HB3 := Lib.hid hb
  clear hd hk hS hb
  go_wp2_with fail
  have hroom : ∀ i, ((((freshD 4).write 0 [1]).write 0 [2]).waits i).length ≤ 1000000 := fun i => by
    have := write_waits_le (i := 0) (l := [2]) (write_waits_le (D := freshD 4) (i := 0) (l := [1]) (n := 0) (fun j => by simp [freshD])) i
    omega
  refine (dk_crash p S3 _ _ [1] 1 _ (HD3.out.alloc _) (ints_lit w3 [1] _ _ rfl) (fun b o e hs => by cases e; have := (HD3.out.base _ hs).2; omega) hroom).mono ?_
  rintro e w4 ⟨rfl, hd, hk⟩
  have hb : Below w.heap.size w w4 := HB3.out.trans ((((Below.refl _ _).alloc HB3.out.size _)).trans ((HD3.out.alloc _).keptBelow hk))
  have HD4 := Lib.hid hd; have HB4 := Lib.hid hb
  clear hd hk hb hroom
  go_wp2_with fail
  refine (read_in p S3 _ 0 w4 HD4.out.at_ (by decide)).mono ?_
  rintro e w5 ⟨rfl, rfl⟩
  have hrd : ((((freshD 4).write 0 [1]).write 0 [2]).crash [1]).read 0 = pad [1] := by decide +kernel
  rw [hrd]
  have c0 := secV_cell (heap_alloc_new w4 (.cells (secV (pad [1])).toArray 97)) 0 (by decide)
  have e0 : (((pad [1])[0]'(by decide)).toNat : Int) = 1 := by decide
  rw [e0] at c0
  go_wp2_with fail
  go_ret
  exact ⟨rfl, HB4.out.alloc HB4.out.size _⟩
end Go.Proofs.Ythbdlfkdemjpoaa
