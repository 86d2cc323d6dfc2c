/- What the sector package's Write does. No condition. -/
import Derived.Test.YthbdlfkdemjpoaaS3
import Derived.Deep.AppendLies
namespace Go.Proofs.Ythbdlfkdemjpoaa
open Go.RowKit Go.Maps

/-- A row of bytes that is read. -/
def Bytes (w : World) (A : Option Addr) (l : List UInt8) : Prop := l = [] ∨ ∃ b o, A = some ⟨b, o, none⟩ ∧ b < w.heap.size ∧ w.rangeAt b o (secV l)
theorem Bytes.fix {w w' : World} {A : Option Addr} {l : List UInt8} (h : Bytes w A l) (hs : w.heap.size ≤ w'.heap.size) (hm : ∀ b o, A = some ⟨b, o, none⟩ → b < w.heap.size → w'.heap[b]? = w.heap[b]?) : Bytes w' A l := by
  rcases h with h | ⟨b, o, rfl, hl, hc⟩
  · exact .inl h
  · refine .inr ⟨b, o, rfl, Nat.lt_of_lt_of_le hl hs, fun j v hv => ?_⟩
    rw [World.cell?_of_block (w := w) (hm b o rfl hl)]
    exact hc j v hv
theorem Bytes.below {w w' : World} {A : Option Addr} {l : List UInt8} (h : Bytes w A l) (hb : Below w.heap.size w w') : Bytes w' A l := h.fix hb.size fun b _ _ hl => hb.block b hl
def pad (l : List UInt8) : Sec := l ++ List.replicate (64 - l.length) 0
theorem pad_length {l : List UInt8} (h : l.length ≤ 64) : (pad l).length = 64 := by simp [pad]; omega

theorem setCells_fresh' (w : World) (cs : Array Value) (t : TypeId) (vs : List Value) (h : vs.length ≤ cs.size) : (w.alloc (.cells cs t)).setCells w.heap.size 0 vs = w.alloc (.cells (vs ++ cs.toList.drop vs.length).toArray t) := by
  have key : ∀ (vs : List Value) (o : Nat) (cs : Array Value), o + vs.length ≤ cs.size → (w.alloc (.cells cs t)).setCells w.heap.size o vs = w.alloc (.cells (cs.toList.take o ++ vs ++ cs.toList.drop (o + vs.length)).toArray t) := by
    intro vs
    induction vs with
    | nil =>
      intro o cs ho
      simp only [World.setCells]
      congr 2
      rw [List.append_nil, List.length_nil, Nat.add_zero, List.take_append_drop]
    | cons v r ih =>
      intro o cs ho
      simp only [List.length_cons] at ho
      rw [World.setCells]
      have e : (w.alloc (.cells cs t)).setCell ⟨w.heap.size, o, none⟩ v = w.alloc (.cells (cs.setIfInBounds o v) t) := by
        simp only [World.setCell, World.alloc]
        congr 1
        apply Array.ext_getElem?
        intro k
        simp only [Array.getElem?_modify, Array.getElem?_push]
        by_cases hk : w.heap.size = k
        · subst hk; simp
        · rw [if_neg hk, if_neg (by omega), if_neg (by omega)]
      rw [e, ih (o + 1) _ (by simp; omega)]
      congr 2
      rw [Array.toList_setIfInBounds]
      have hl : o < cs.toList.length := by simp; omega
      rw [List.take_set, List.take_succ_eq_append_getElem hl, List.set_append_right _ _ (by simp; omega), List.drop_set_of_lt (by omega)]
      have hm : min o cs.size = o := by omega
      have h2 : o + 1 + r.length = o + (r.length + 1) := by omega
      simp [hm, h2]
  have := key vs 0 cs (by simpa using h)
  simpa using this
theorem drop_zeroA (n : Nat) : zeroA.toList.drop n = List.replicate (64 - n) (.int .u8 0) := by
  have : zeroA.toList = List.replicate 64 (.int .u8 0) := by rfl
  rw [this, List.drop_replicate]
theorem secV_pad (l : List UInt8) : secV (pad l) = secV l ++ List.replicate (64 - l.length) (.int .u8 0) := by
  simp [secV, pad]
theorem run_copy_fresh (w : World) (A : Option Addr) (l : List UInt8) (c : Nat) (hA : Bytes w A l) (hl : l.length ≤ 64) :
    (Builtin.copy_ #[22, 22] 3 #[.slice (some ⟨w.heap.size, 0, none⟩) 64 64, .slice A l.length c]).run Try.prog (w.alloc (.cells zeroA 97)) = .ok (goInt l.length) (w.alloc (.cells (secV (pad l)).toArray 97)) := by
  have hs1 : (Try.prog.info? 5).map (·.size) = some 1 := by kernel_rfl
  rcases hA with rfl | ⟨b, o, rfl, hb, hr⟩
  · have h0 : (secV (pad [])).toArray = zeroA := rfl
    rw [h0]
    exact run_copy_none (P := Try.prog) _ _ _ _ 5 _ _ _ _ _ _ Try.underlying22 hs1 (by simp)
  · have hz : zeroA.size = 64 := rfl
    have h1 := run_copy_cells (P := Try.prog) (w.alloc (.cells zeroA 97)) 22 22 3 5 w.heap.size 0 64 64 ⟨b, o, none⟩ l.length c (secV l) Try.underlying22 hs1 (by rw [secV_length]; exact (Nat.min_eq_left hl).symm)
      (fun j v hv => by rw [Addr.add_mid, World.cell?_alloc_lt _ _ _ hb]; exact hr j v hv)
      (fun j hj => by rw [secV_length] at hj; rw [Nat.zero_add, cell_of (heap_alloc_new w _)]; simp [hz]; omega)
      (fun j hj => by rw [frozen_of (heap_alloc_new w _)]) (fun v hv => secV_one hv)
    rw [setCells_fresh' _ _ _ _ (by rw [secV_length, hz]; exact hl), secV_length, drop_zeroA, ← secV_pad] at h1
    exact h1

/-- One write. -/
def DS.write (D : DS) (i : Nat) (l : List UInt8) : DS := (D.put i (pad l)).burn

theorem Kept.union {S : Nat → Prop} {w w' : World} (h : Kept (fun k => S k ∨ w.heap.size ≤ k) w w') : Kept S w w' := h.mono fun k hk hs => hs.elim id (fun e => absurd hk (by omega))

set_option maxHeartbeats 400000 in
theorem write_nil (i : Int) (A : Option Addr) (n c : Nat) (w : World) : Calls Try.prog 23 #[.pointer none, .int .i64 i, .slice A n c] w fun e w' => e = .returned (.int .i64 1) ∧ w = w' := by
  go_enter Try.func23, Try.ntmps23
  go_wp2_with (go_at_call 53; refine (burnt_nil _).mono ?_; rintro e w' ⟨rfl, rfl⟩)
  go_ret
  exact ⟨rfl, rfl⟩
set_option maxHeartbeats 400000 in
theorem write_dead (p : Nat) (S : Nat → Prop) (D : DS) (i : Int) (A : Option Addr) (n c : Nat) (w : World) (h : DiskAt w p S D) (hf : D.fuse = 0) : Calls Try.prog 23 #[.pointer (some ⟨p, 0, none⟩), .int .i64 i, .slice A n c] w fun e w' => e = .returned (.int .i64 6) ∧ w = w' := by
  have hb := burnt_any p S D w h
  rw [show D.burnt = 6 by simp [DS.burnt, hf]] at hb
  have HB := Lib.hid hb
  clear hb hf
  go_enter Try.func23, Try.ntmps23
  go_wp2_with (go_at_call 53; refine HB.out.mono ?_; rintro e w' ⟨rfl, rfl⟩)
  go_ret
  exact ⟨rfl, rfl⟩
set_option maxHeartbeats 400000 in
theorem write_low (p : Nat) (S : Nat → Prop) (D : DS) (i : Int) (A : Option Addr) (n c : Nat) (w : World) (h : DiskAt w p S D) (hf : D.fuse ≠ 0) (hi : i < 0) : Calls Try.prog 23 #[.pointer (some ⟨p, 0, none⟩), .int .i64 i, .slice A n c] w fun e w' => e = .returned (.int .i64 1) ∧ w = w' := by
  have hb := burnt_any p S D w h
  rw [show D.burnt = 0 by simp [DS.burnt, hf]] at hb
  have HB := Lib.hid hb
  have q : decide (i < 0) = true := decide_eq_true hi
  clear hb hf hi
  go_enter Try.func23, Try.ntmps23
  go_wp2_with (go_at_call 53; refine HB.out.mono ?_; rintro e w' ⟨rfl, rfl⟩)
  go_ret
  exact ⟨rfl, rfl⟩
set_option maxHeartbeats 400000 in
theorem write_high (p : Nat) (S : Nat → Prop) (D : DS) (i : Int) (A : Option Addr) (n c : Nat) (w : World) (h : DiskAt w p S D) (hf : D.fuse ≠ 0) (hi : 0 ≤ i) (hi2 : (D.lasts.length : Int) ≤ i) : Calls Try.prog 23 #[.pointer (some ⟨p, 0, none⟩), .int .i64 i, .slice A n c] w fun e w' => e = .returned (.int .i64 1) ∧ w = w' := by
  have hb := burnt_any p S D w h
  rw [show D.burnt = 0 by simp [DS.burnt, hf]] at hb
  have HB := Lib.hid hb
  obtain ⟨_, bl, bm, clock, rs, hm⟩ := h
  have c0 := cell_of hm.own 0
  simp only [List.getElem?_toArray, List.getElem?_cons_zero] at c0
  have q : decide (i < 0) = false := by simp; omega
  have q2 : decide ((D.lasts.length : Int) ≤ i) = true := decide_eq_true hi2
  clear hb hf hm hi hi2
  go_enter Try.func23, Try.ntmps23
  go_wp2_with (go_at_call 53; refine HB.out.mono ?_; rintro e w' ⟨rfl, rfl⟩)
  go_ret
  exact ⟨rfl, rfl⟩
set_option maxHeartbeats 400000 in
theorem write_long (p : Nat) (S : Nat → Prop) (D : DS) (i : Int) (A : Option Addr) (n c : Nat) (w : World) (h : DiskAt w p S D) (hf : D.fuse ≠ 0) (hi : 0 ≤ i) (hi2 : i < (D.lasts.length : Int)) (hn : 64 < n) : Calls Try.prog 23 #[.pointer (some ⟨p, 0, none⟩), .int .i64 i, .slice A n c] w fun e w' => e = .returned (.int .i64 1) ∧ w = w' := by
  have hb := burnt_any p S D w h
  rw [show D.burnt = 0 by simp [DS.burnt, hf]] at hb
  have HB := Lib.hid hb
  obtain ⟨_, bl, bm, clock, rs, hm⟩ := h
  have c0 := cell_of hm.own 0
  simp only [List.getElem?_toArray, List.getElem?_cons_zero] at c0
  have q : decide (i < 0) = false := by simp; omega
  have q2 : decide ((D.lasts.length : Int) ≤ i) = false := by simp; omega
  have q3 : decide ((64 : Int) < (n : Int)) = true := by simp; omega
  clear hb hf hm hi hi2 hn
  go_enter Try.func23, Try.ntmps23
  go_wp2_with (go_at_call 53; refine HB.out.mono ?_; rintro e w' ⟨rfl, rfl⟩)
  go_ret
  exact ⟨rfl, rfl⟩
end Go.Proofs.Ythbdlfkdemjpoaa
