/- The second reference's Disk as it lies in memory (the same disk, told by rows of texts). No condition. -/
import Derived.Test.YthbdlfkdemjpoaaS11
import Derived.BigQuiet
namespace Go.Proofs.Ythbdlfkdemjpoaa
open Go.RowKit Go.Maps

def secS (s : Sec) : Value := .string ⟨s.toArray⟩
/-- The versions of a sector, the one that lasts first. -/
def DS.vers (D : DS) (i : Nat) : List Sec := D.lasts.getD i [] :: D.waits i
theorem DS.vers_length (D : DS) (i : Nat) : (D.vers i).length = (D.waits i).length + 1 := rfl
theorem last_gen (x : Sec) (l : List Sec) : (x :: l)[l.length]'(by simp) = (l.getLast?).getD x := by
  cases l with
  | nil => rfl
  | cons s l => simp [List.getLast?_eq_getElem?]
theorem DS.vers_last (D : DS) (i : Nat) : (D.vers i)[(D.waits i).length]'(by rw [D.vers_length]; omega) = D.read i := by
  exact last_gen _ _
/-- A row of texts that lies in block g. -/
def RowAt (w : World) (g : Nat) (v : Value) (ss : List Sec) : Prop :=
  ∃ o cap cs, v = .slice (some ⟨g, o, none⟩) ss.length cap ∧ w.heap[g]? = some (.cells cs 9 (0, 0)) ∧ ss.length ≤ cap ∧ o + cap ≤ cs.size ∧ ∀ j (hj : j < ss.length), cs[o + j]? = some (secS ss[j])
theorem RowAt.fix {w w' : World} {g : Nat} {v : Value} {ss : List Sec} (h : RowAt w g v ss) (hm : w'.heap[g]? = w.heap[g]?) : RowAt w' g v ss := by
  obtain ⟨o, cap, cs, h1, h2, h3⟩ := h
  exact ⟨o, cap, cs, h1, hm.trans h2, h3⟩
theorem RowAt.lt {w : World} {g : Nat} {v : Value} {ss : List Sec} (h : RowAt w g v ss) : g < w.heap.size := by
  obtain ⟨o, cap, cs, h1, h2, h3⟩ := h
  exact lt_of h2
structure RefMem (w : World) (q : Nat) (T : Nat → Prop) (D : DS) (bo cap : Nat) (outer : Array Value) (gs : Nat → Nat) : Prop where
  own : w.heap[q]? = some (.cells #[.slice (some ⟨bo, 0, none⟩) D.lasts.length cap, .int .i64 D.fuse] 70 (0, 0))
  rim : w.heap[bo]? = some (.cells outer 67 (0, 0))
  wide : D.lasts.length ≤ outer.size
  rows : ∀ i, i < D.lasts.length → ∃ v, outer[i]? = some v ∧ RowAt w (gs i) v (D.vers i)
  inj : ∀ i j, i < D.lasts.length → j < D.lasts.length → gs i = gs j → i = j
  tq : T q
  tb : T bo
  tg : ∀ i, i < D.lasts.length → T (gs i)
theorem RefMem.fix {w w' : World} {q bo cap : Nat} {T : Nat → Prop} {D : DS} {outer : Array Value} {gs : Nat → Nat} (h : RefMem w q T D bo cap outer gs) (hm : ∀ k, T k → k < w.heap.size → w'.heap[k]? = w.heap[k]?) : RefMem w' q T D bo cap outer gs :=
  ⟨(hm q h.tq (lt_of h.own)).trans h.own, (hm bo h.tb (lt_of h.rim)).trans h.rim, h.wide, fun i hi => by
    obtain ⟨v, h1, h2⟩ := h.rows i hi
    exact ⟨v, h1, h2.fix (hm _ (h.tg i hi) h2.lt)⟩, h.inj, h.tq, h.tb, h.tg⟩
/-- The reference's disk, all of whose blocks lie from B on. -/
structure Rk (B : Nat) (w : World) (q : Nat) (T : Nat → Prop) (D : DS) : Prop where
  ok : D.Ok
  mem : ∃ bo cap outer gs, RefMem w q T D bo cap outer gs
  base : ∀ k, T k → B ≤ k ∧ k < w.heap.size
  low : B ≤ w.heap.size
theorem Rk.fix {B : Nat} {w w' : World} {q : Nat} {T : Nat → Prop} {D : DS} (h : Rk B w q T D) (hs : w.heap.size ≤ w'.heap.size) (hm : ∀ k, T k → k < w.heap.size → w'.heap[k]? = w.heap[k]?) : Rk B w' q T D :=
  ⟨h.ok, by obtain ⟨bo, cap, outer, gs, hh⟩ := h.mem; exact ⟨bo, cap, outer, gs, hh.fix hm⟩, fun k hk => ⟨(h.base k hk).1, Nat.lt_of_lt_of_le (h.base k hk).2 hs⟩, Nat.le_trans h.low hs⟩
theorem Rk.alloc {B : Nat} {w : World} {q : Nat} {T : Nat → Prop} {D : DS} (h : Rk B w q T D) (o : Obj) : Rk B (w.alloc o) q T D := h.fix (by simp) fun _ _ hk => Below.heap_alloc _ _ _ hk
theorem Rk.drewN {B : Nat} {w : World} {q : Nat} {T : Nat → Prop} {D : DS} (h : Rk B w q T D) (n : Nat) : Rk B (w.drewN n) q T D := h.fix (Nat.le_refl _) fun _ _ _ => rfl
theorem Rk.drawn {B : Nat} {w : World} {q : Nat} {T : Nat → Prop} {D : DS} (h : Rk B w q T D) : Rk B { w with drawn := w.drawn + 1 } q T D := h.fix (Nat.le_refl _) fun _ _ _ => rfl
theorem Rk.below {B : Nat} {w w' : World} {q : Nat} {T : Nat → Prop} {D : DS} (h : Rk B w q T D) (hb : Below w.heap.size w w') : Rk B w' q T D := h.fix hb.size fun k _ hk => hb.block k hk
theorem Rk.kept {B : Nat} {w w' : World} {q : Nat} {S T : Nat → Prop} {D : DS} (h : Rk B w q T D) (hk : Kept S w w') (hd : ∀ k, T k → ¬ S k) : Rk B w' q T D := h.fix hk.size fun k hT hl => hk.block k hl (hd k hT)
theorem Rk.keptBelow {B : Nat} {w w' : World} {q : Nat} {T : Nat → Prop} {D : DS} (h : Rk B w q T D) (hk : Kept T w w') : Below B w w' := hk.below h.low fun i hi => (h.base i hi).1

/-! ### Fuse, Waiting -/
def DS.fused (D : DS) (n : Int) : DS := { D with fuse := if n < -1 then -1 else n }
theorem DS.fused_ok {D : DS} (h : D.Ok) (n : Int) (hn : n ≤ 9223372036854775807) : (D.fused n).Ok :=
  ⟨h.some, h.most, h.wide, h.wide', h.inside, by show -1 ≤ (if n < -1 then -1 else n) ∧ (if n < -1 then -1 else n) ≤ 9223372036854775807; split <;> constructor <;> omega⟩
theorem RefMem.setFuse {w : World} {q bo cap : Nat} {T : Nat → Prop} {D : DS} {outer : Array Value} {gs : Nat → Nat} (h : RefMem w q T D bo cap outer gs) (f : Int) :
    RefMem (w.setCell ⟨q, 1, none⟩ (.int .i64 f)) q T { D with fuse := f } bo cap outer gs := by
  have hb : bo ≠ q := fun e => by have a := h.rim; rw [e, h.own] at a; injection a with a; injection a with _ a; exact absurd a (by decide)
  have far : ∀ k, k ≠ q → (w.setCell ⟨q, 1, none⟩ (.int .i64 f)).heap[k]? = w.heap[k]? := fun k hk => Below.heap_setCell _ _ _ _ hk
  refine ⟨?_, (far bo hb).trans h.rim, h.wide, fun i hi => ?_, h.inj, h.tq, h.tb, h.tg⟩
  · have := h.own
    simp only [World.setCell, Array.getElem?_modify, if_true, this, Option.map_some]
    rfl
  · obtain ⟨v, h1, h2⟩ := h.rows i hi
    refine ⟨v, h1, h2.fix (far _ (fun e => ?_))⟩
    obtain ⟨o, cap, cs, _, h4, _⟩ := h2
    rw [e, h.own] at h4; injection h4 with a; injection a with _ a; exact absurd a (by decide)

set_option maxHeartbeats 1000000 in
theorem rfuse_any {B : Nat} (q : Nat) (T : Nat → Prop) (D : DS) (n : Int) (w : World) (h : Rk B w q T D) (hn : n ≤ 9223372036854775807) :
    Calls Try.prog 66 #[.pointer (some ⟨q, 0, none⟩), .int .i64 n] w fun e w' => e = .returned (.tuple #[]) ∧ Rk B w' q T (D.fused n) ∧ Kept T w w' := by
  have hok := DS.fused_ok h.ok n hn
  obtain ⟨bo, cap, outer, gs, hm⟩ := h.mem
  have c1 := cell_of hm.own 1
  have f1 := frozen_of hm.own 1
  simp only [List.getElem?_toArray, List.getElem?_cons_succ, List.getElem?_cons_zero] at c1
  have H := Lib.hid h; have HM := Lib.hid hm; have HO := Lib.hid hok
  clear h hm hok hn
  by_cases h1 : n < -1
  · have q1 : max n (-1) = -1 := by omega
    go_enter Try.func66, Try.ntmps66
    go_wp2_with fail
    go_end0
    refine ⟨rfl, ⟨HO.out, ⟨bo, cap, outer, gs, ?_⟩, fun k hk => ⟨(H.out.base k hk).1, by have := (H.out.base k hk).2; simpa [World.setCell] using this⟩, by have := H.out.low; simpa [World.setCell] using this⟩, (Kept.refl _ _).setCell _ _ (fun _ => HM.out.tq)⟩
    have := HM.out.setFuse (-1)
    unfold DS.fused
    rw [if_pos h1]
    exact this
  · have q1 : max n (-1) = n := by omega
    go_enter Try.func66, Try.ntmps66
    go_wp2_with fail
    go_end0
    refine ⟨rfl, ⟨HO.out, ⟨bo, cap, outer, gs, ?_⟩, fun k hk => ⟨(H.out.base k hk).1, by have := (H.out.base k hk).2; simpa [World.setCell] using this⟩, by have := H.out.low; simpa [World.setCell] using this⟩, (Kept.refl _ _).setCell _ _ (fun _ => HM.out.tq)⟩
    have := HM.out.setFuse n
    unfold DS.fused
    rw [if_neg (by omega)]
    exact this
end Go.Proofs.Ythbdlfkdemjpoaa
