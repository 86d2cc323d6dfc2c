/- Lemmas on frames and on a map's block in memory, for all proofs of this seat. No condition. -/
import Derived.Test.YthbdlfkdemjpoaaChecked
import Derived.WalkKit
import Derived.LoopTactic
import Derived.KernelRfl
import Derived.RowKit
import Derived.RowKit3
import Derived.Below
import Derived.Lib.Hide
import Derived.Outline
import Derived.Deep.QuietTactic
import Derived.BigQuiet
import Derived.Laws.Rows
import Derived.Laws.MakeOwn
import Derived.Laws.AppendOwn
import Derived.Laws.OwnMore
import Derived.Maps.AppendAt
import Derived.Maps.Keyed
import Derived.Deep.MidRow
import Derived.Deep.RegionHeld3
import Derived.Deep.DrawnRows
import Derived.WalkSpells
import Derived.WalkLawsBesides
import Derived.MapKept
import Derived.Lib.Strings
namespace Go.Proofs.Ythbdlfkdemjpoaa
open Go.RowKit Go.Maps

theorem ret_bool {a b : Bool} (h : a = b) : Ending.returned (.bool a) = .returned (.bool b) := by rw [h]
theorem ret_int {k : IntKind} {a b : Int} (h : a = b) : Ending.returned (.int k a) = .returned (.int k b) := by rw [h]
theorem ba_ext {a b : ByteArray} (h : a.toList = b.toList) : a = b := by
  rw [Lib.toList_data, Lib.toList_data] at h
  cases a; cases b; congr; exact Array.toList_inj.1 h

/-! ### what a call may have turned: the blocks of S, and new ones -/
structure Kept (S : Nat → Prop) (w w' : World) : Prop where
  os : w'.os = w.os
  tape : w'.tape = w.tape
  output : w'.output = w.output
  size : w.heap.size ≤ w'.heap.size
  block : ∀ k, k < w.heap.size → ¬ S k → w'.heap[k]? = w.heap[k]?
def Nil : Nat → Prop := fun _ => False
theorem Kept.refl (S : Nat → Prop) (w : World) : Kept S w w := ⟨rfl, rfl, rfl, Nat.le_refl _, fun _ _ _ => rfl⟩
theorem Kept.trans {S : Nat → Prop} {a b c : World} (h : Kept S a b) (k : Kept S b c) : Kept S a c :=
  ⟨k.os.trans h.os, k.tape.trans h.tape, k.output.trans h.output, Nat.le_trans h.size k.size, fun i hi hs => (k.block i (Nat.lt_of_lt_of_le hi h.size) hs).trans (h.block i hi hs)⟩
/-- Behind a call that may turn S, one that may turn S and what is new since. -/
theorem Kept.trans' {S T : Nat → Prop} {a b c : World} (h : Kept S a b) (k : Kept T b c) (hT : ∀ i, i < a.heap.size → T i → S i) : Kept S a c :=
  ⟨k.os.trans h.os, k.tape.trans h.tape, k.output.trans h.output, Nat.le_trans h.size k.size, fun i hi hs => (k.block i (Nat.lt_of_lt_of_le hi h.size) (fun ht => hs (hT i hi ht))).trans (h.block i hi hs)⟩
theorem Kept.mono {S T : Nat → Prop} {a b : World} (h : Kept S a b) (hT : ∀ i, i < a.heap.size → S i → T i) : Kept T a b := ⟨h.os, h.tape, h.output, h.size, fun i hi hs => h.block i hi (fun e => hs (hT i hi e))⟩
theorem Kept.below {S : Nat → Prop} {a b : World} {B : Nat} (h : Kept S a b) (hB : B ≤ a.heap.size) (hS : ∀ i, S i → B ≤ i) : Below B a b :=
  ⟨h.os, h.tape, h.output, h.size, fun i hi => h.block i (by omega) (fun e => by have := hS i e; omega)⟩
theorem Kept.of_below {S : Nat → Prop} {a b : World} (h : Below a.heap.size a b) : Kept S a b := ⟨h.os, h.tape, h.output, h.size, fun i hi _ => h.block i hi⟩
theorem Kept.drewN {S : Nat → Prop} {a b : World} (h : Kept S a b) (n : Nat) : Kept S a (b.drewN n) := ⟨h.os, h.tape, h.output, h.size, h.block⟩
theorem Kept.drew {S : Nat → Prop} {a b : World} (h : Kept S a b) : Kept S a b.drew := ⟨h.os, h.tape, h.output, h.size, h.block⟩
theorem Kept.alloc {S : Nat → Prop} {a b : World} (h : Kept S a b) (o : Obj) : Kept S a (b.alloc o) :=
  h.trans ⟨rfl, rfl, rfl, by simp, fun k hk _ => Below.heap_alloc _ _ _ hk⟩
theorem Kept.setCell {S : Nat → Prop} {a b : World} (h : Kept S a b) (p : Addr) (u : Value) (hp : p.block < a.heap.size → S p.block) : Kept S a (b.setCell p u) :=
  ⟨h.os, h.tape, h.output, by simpa [World.setCell] using h.size, fun k hk hs => by
    rw [Below.heap_setCell _ _ _ _ (fun e => hs (by subst e; exact hp hk))]; exact h.block k hk hs⟩
theorem Kept.grown {S : Nat → Prop} {a b c : World} {row : Option Nat} (h : Kept S a b) (hg : b.grownBy c row) (hr : ∀ k, row = some k → k < a.heap.size → S k) : Kept S a c :=
  ⟨hg.os.trans h.os, hg.tape.trans h.tape, hg.output.trans h.output, Nat.le_trans h.size hg.size, fun k hk hs => by
    rw [hg.block k (Nat.lt_of_lt_of_le hk h.size) (fun e => hs (hr k e.symm hk))]; exact h.block k hk hs⟩
theorem heap_setCells (b : Nat) : ∀ (vs : List Value) (o : Nat) (w : World) (k : Nat), k ≠ b → (w.setCells b o vs).heap[k]? = w.heap[k]?
  | [], _, _, _, _ => rfl
  | v :: r, o, w, k, h => by
    rw [World.setCells, heap_setCells b r (o + 1) _ k h, Below.heap_setCell _ _ _ _ h]
theorem setCells_meta (b : Nat) : ∀ (vs : List Value) (o : Nat) (w : World), (w.setCells b o vs).os = w.os ∧ (w.setCells b o vs).tape = w.tape ∧ (w.setCells b o vs).output = w.output ∧ (w.setCells b o vs).heap.size = w.heap.size
  | [], _, _ => ⟨rfl, rfl, rfl, rfl⟩
  | v :: r, o, w => by
    obtain ⟨h1, h2, h3, h4⟩ := setCells_meta b r (o + 1) (w.setCell ⟨b, o, none⟩ v)
    rw [World.setCells]
    exact ⟨h1, h2, h3, h4.trans (by simp [World.setCell])⟩
theorem Kept.setCells {S : Nat → Prop} {a c : World} (h : Kept S a c) (b o : Nat) (vs : List Value) (hp : b < a.heap.size → S b) : Kept S a (c.setCells b o vs) := by
  obtain ⟨h1, h2, h3, h4⟩ := setCells_meta b vs o c
  exact ⟨h1.trans h.os, h2.trans h.tape, h3.trans h.output, by rw [h4]; exact h.size, fun k hk hs => by
    rw [heap_setCells b vs o c k (fun e => hs (by subst e; exact hp hk))]; exact h.block k hk hs⟩
def setObj (w : World) (b : Nat) (o : Obj) : World := { w with heap := w.heap.setIfInBounds b o }
theorem heap_setObj_ne (w : World) (b : Nat) (o : Obj) (k : Nat) (h : k ≠ b) : (setObj w b o).heap[k]? = w.heap[k]? := by
  simp only [setObj, Array.getElem?_setIfInBounds]
  rw [if_neg (by omega)]
theorem heap_setObj (w : World) (b : Nat) (o : Obj) (h : b < w.heap.size) : (setObj w b o).heap[b]? = some o := by
  simp [setObj, h]
theorem Kept.setObj {S : Nat → Prop} {a c : World} (h : Kept S a c) (b : Nat) (o : Obj) (hp : b < a.heap.size → S b) : Kept S a (setObj c b o) :=
  ⟨h.os, h.tape, h.output, by simpa [Proofs.Ythbdlfkdemjpoaa.setObj] using h.size, fun k hk hs => by
    rw [heap_setObj_ne c b o k (fun e => hs (by subst e; exact hp hk))]; exact h.block k hk hs⟩
theorem Below.drewN {B : Nat} {a w : World} {n : Nat} (h : Below B a w) : Below B a (w.drewN n) := ⟨h.os, h.tape, h.output, h.size, h.block⟩
theorem below_alloc1 (w : World) (o : Obj) : Below w.heap.size w (w.alloc o) := (Below.refl _ _).alloc (Nat.le_refl _) _
theorem cell_of {w : World} {b : Nat} {cs : Array Value} {t : TypeId} {fr : Nat × Nat} (h : w.heap[b]? = some (.cells cs t fr)) (o : Nat) : w.cell? ⟨b, o, none⟩ = cs[o]? := by
  simp [World.cell?, h]
theorem frozen_of {w : World} {b : Nat} {cs : Array Value} {t : TypeId} (h : w.heap[b]? = some (.cells cs t (0, 0))) (o : Nat) : w.frozen? ⟨b, o, none⟩ = false := by
  simp [World.frozen?, h]
theorem lt_of {w : World} {b : Nat} {o : Obj} (h : w.heap[b]? = some o) : b < w.heap.size := (Array.getElem?_eq_some_iff.1 h).1
theorem heap_drewN (w : World) (n : Nat) (k : Nat) : (w.drewN n).heap[k]? = w.heap[k]? := rfl

/-! ### a map's block with whole keys -/
/-- A row of a map: its key, its value, when it was laid. -/
structure MRow (α : Type) where
  k : α
  v : Value
  born : Nat
section
variable {α : Type} [DecidableEq α] (enc : α → Value)
def MRow.e (r : MRow α) : MapEntry := ⟨enc r.k, r.v, r.born⟩
def mfind (rs : List (MRow α)) (k : α) : Option Value := (rs.find? fun r => decide (r.k = k)).map (·.v)
/-- What a store makes of the rows. -/
def mput (rs : List (MRow α)) (k : α) (v : Value) (clock : Nat) : List (MRow α) :=
  if rs.any (fun r => decide (r.k = k)) then rs.map (fun r => if r.k = k then { r with v := v } else r) else rs ++ [⟨k, v, clock⟩]
def mclock (rs : List (MRow α)) (k : α) (clock : Nat) : Nat := if rs.any (fun r => decide (r.k = k)) then clock else clock + 1
/-- The type's keys are told apart by what they are. -/
def KeyKind (kind : TypeDesc) : Prop := (∀ a b : α, Instr.sameNow kind (enc a) (enc b) = some (decide (a = b))) ∧ (∀ (n : Nat) a b, a = b → Instr.sameBits n (enc a) (enc b) = true) ∧
  (∀ (P : Program) (w : World) (t : TypeId) (em : Bool) (n : Nat) (a : α), P.underlying t = some kind → (Instr.checkKey em (n + 1) t (enc a)).run P w = .ok () w)
variable {enc}
theorem findNow_rows {kind : TypeDesc} (hk : KeyKind enc kind) (key : α) : ∀ (rs : List (MRow α)) (i : Nat),
    Instr.findNow kind (enc key) (rs.map (MRow.e enc)) i = some ((rs.findIdx? fun r => decide (r.k = key)).bind fun j => (rs[j]?).map fun r => (i + j, r.v))
  | [], i => by simp [Instr.findNow]
  | r :: rs, i => by
    simp only [List.map_cons, Instr.findNow, MRow.e, hk.1, List.findIdx?_cons]
    by_cases h : key = r.k
    · subst h; simp
    · have h' : ¬ r.k = key := fun e => h e.symm
      simp only [h, h', decide_false]
      rw [findNow_rows hk key rs (i + 1)]
      cases hf : rs.findIdx? (fun r => decide (r.k = key)) with
      | none => simp
      | some j => simp [Nat.add_assoc, Nat.add_comm 1 j]
theorem findIdx_find (rs : List (MRow α)) (key : α) : ((rs.findIdx? fun r => decide (r.k = key)).bind fun j => (rs[j]?).map fun r => r.v) = mfind rs key := by
  unfold mfind
  induction rs with
  | nil => rfl
  | cons r rs ih =>
    rw [List.findIdx?_cons, List.find?_cons]
    by_cases h : r.k = key
    · simp [h]
    · simp only [h, decide_false]
      rw [← ih]
      cases hf : rs.findIdx? (fun r => decide (r.k = key)) with
      | none => simp
      | some j => simp
theorem run_getObj_map' {P : Program} {w : World} {b : Nat} {es : Array MapEntry} {clock : Nat} (hb : w.heap[b]? = some (.map es clock)) : (getObj b).run P w = .ok (.map es clock) w := by
  simp [getObj, Sem.run, hb]
theorem run_setObj_map' {P : Program} {w : World} {b : Nat} {es : Array MapEntry} {clock : Nat} (o : Obj) (hb : w.heap[b]? = some (.map es clock)) : (Go.setObj b o).run P w = .ok () (setObj w b o) := by
  simp [Go.setObj, Sem.run, hb, setObj]
/-- A lookup. -/
theorem run_lookup {P : Program} {w : World} {t kt et bm clock : Nat} {kind : TypeDesc} (ht : P.underlying t = some (.map kt et)) (hkt : P.underlying kt = some kind) (hk : KeyKind enc kind) (rs : List (MRow α)) (hb : w.heap[bm]? = some (.map (rs.map (MRow.e enc)).toArray clock))
    {z : Value} (hz : (zeroValue et).run P w = .ok z w) (key : α) (ok : Bool) :
    (Instr.lookup t (.map (some bm)) (enc key) ok).run P w = .ok (if ok then .tuple #[(mfind rs key).getD z, .bool (mfind rs key).isSome] else (mfind rs key).getD z) w := by
  have hf := findNow_rows hk key rs 0
  have hc : ∀ em, (Instr.checkKey em 10000 kt (enc key)).run P w = .ok () w := fun em => hk.2.2 P w kt em 9999 key hkt
  simp only [Instr.lookup, Sem.run_bind, run_underlying ht, Result.andThen_ok, run_getObj_map' hb, hc, Instr.findKey, run_underlying hkt, hf, Sem.run_pure]
  rw [← findIdx_find]
  cases hi : rs.findIdx? (fun r => decide (r.k = key)) with
  | none => cases ok <;> simp [hz]
  | some j =>
    cases hj : rs[j]? with
    | none => cases ok <;> simp [hj, hz]
    | some r => cases ok <;> simp [hj]
theorem any_findIdx (rs : List (MRow α)) (key : α) : rs.any (fun r => decide (r.k = key)) = (rs.findIdx? fun r => decide (r.k = key)).isSome := by
  induction rs with
  | nil => rfl
  | cons r rs ih =>
    rw [List.any_cons, List.findIdx?_cons, ih]
    cases decide (r.k = key) with
    | true => rfl
    | false => simp only [Bool.false_or, Bool.false_eq_true, if_false, Option.isSome_map]
theorem modify_rows (rs : List (MRow α)) (key : α) (v : Value) (hn : (rs.map (·.k)).Nodup) (j : Nat) (hj : (rs.findIdx? fun r => decide (r.k = key)) = some j) :
    ((rs.map (MRow.e enc)).toArray.modify j fun e => { e with key := enc key, val := v }) = ((rs.map (fun r => if r.k = key then { r with v := v } else r)).map (MRow.e enc)).toArray := by
  obtain ⟨hl, hp, _⟩ := List.findIdx?_eq_some_iff_getElem.1 hj
  have hp : rs[j].k = key := by simpa using hp
  apply Array.ext_getElem?
  intro i
  simp only [Array.getElem?_modify, List.getElem?_toArray, List.getElem?_map]
  by_cases hi : j = i
  · subst hi
    simp [List.getElem?_eq_getElem hl, hp, MRow.e]
  · rw [if_neg hi]
    by_cases hil : i < rs.length
    · have hne : rs[i].k ≠ key := by
        intro e
        have hq := List.pairwise_iff_getElem.1 hn
        rcases Nat.lt_or_gt_of_ne hi with h1 | h1
        · exact hq j i (by simpa using hl) (by simpa using hil) h1 (by simp [e, hp])
        · exact hq i j (by simpa using hil) (by simpa using hl) h1 (by simp [e, hp])
      simp [List.getElem?_eq_getElem hil, hne]
    · simp [List.getElem?_eq_none (by omega : rs.length ≤ i)]
/-- A store. -/
theorem run_mapUpdate {P : Program} {w : World} {t kt et bm clock : Nat} {kind : TypeDesc} (ht : P.underlying t = some (.map kt et)) (hkt : P.underlying kt = some kind) (hk : KeyKind enc kind) (rs : List (MRow α)) (hn : (rs.map (·.k)).Nodup) (hb : w.heap[bm]? = some (.map (rs.map (MRow.e enc)).toArray clock))
    (key : α) (v : Value) :
    (Instr.mapUpdate t (.map (some bm)) (enc key) v).run P w = .ok () (setObj w bm (.map ((mput rs key v clock).map (MRow.e enc)).toArray (mclock rs key clock))) := by
  have hf := findNow_rows hk key rs 0
  have hc : ∀ em, (Instr.checkKey em 10000 kt (enc key)).run P w = .ok () w := fun em => hk.2.2 P w kt em 9999 key hkt
  simp only [Instr.mapUpdate, Sem.run_bind, run_underlying ht, Result.andThen_ok, run_getObj_map' hb, hc, Instr.findKey, run_underlying hkt, hf, Sem.run_pure]
  unfold mput mclock
  rw [any_findIdx]
  cases hi : rs.findIdx? (fun r => decide (r.k = key)) with
  | none => simp [run_setObj_map' _ hb, MRow.e]
  | some j =>
    obtain ⟨hl, hp, _⟩ := List.findIdx?_eq_some_iff_getElem.1 hi
    have hp : rs[j].k = key := by simpa using hp
    have hm := modify_rows (enc := enc) rs key v hn j hi
    simp only [Option.bind_some, List.getElem?_eq_getElem hl, Option.map_some, Nat.zero_add, Option.isSome_some, if_true]
    have hb2 : Instr.sameBits 10000 (enc rs[j].k) (enc key) = true := hk.2.1 _ _ _ hp
    have e1 : ((((rs.map (MRow.e enc)).toArray[j]?).map (·.key)).getD (enc key)) = enc rs[j].k := by simp [List.getElem?_eq_getElem hl, MRow.e]
    rw [e1]
    simp only [Instr.keyThatStays, hb2, if_true, Sem.run_bind, Sem.run_pure, Result.andThen_ok, run_setObj_map' _ hb]
    rw [hm]
end
theorem ba_beq (a b : ByteArray) : (a == b) = decide (a = b) := by
  show (a.data == b.data) = _
  by_cases h : a = b
  · subst h; simp
  · have : a.data ≠ b.data := fun e => h (by cases a; cases b; simpa using e)
    simp [h, this]
theorem int_keys (k : IntKind) : KeyKind (Value.int k) (.int k) :=
  ⟨fun a b => by simp [Instr.sameNow, Bool.beq_eq_decide_eq], fun n a b h => by subst h; cases n <;> simp [Instr.sameBits], fun P w t em n a h => by simp [Instr.checkKey, run_underlying h]⟩
theorem string_keys : KeyKind (fun s : ByteArray => Value.string s) .string :=
  ⟨fun a b => by simp [Instr.sameNow, ba_beq], fun n a b h => by subst h; cases n <;> simp [Instr.sameBits, ba_beq], fun P w t em n a h => by simp [Instr.checkKey, run_underlying h]⟩
end Go.Proofs.Ythbdlfkdemjpoaa
