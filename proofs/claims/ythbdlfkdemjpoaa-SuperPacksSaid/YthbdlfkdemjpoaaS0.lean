/- The sector package's Disk as it lies in memory, and its simplest functions. No condition. -/
import Derived.Test.YthbdlfkdemjpoaaM0
namespace Go.Proofs.Ythbdlfkdemjpoaa
open Go.RowKit Go.Maps

/-- A sector: its 64 bytes. -/
abbrev Sec := List UInt8
def secV (s : Sec) : List Value := s.map fun b => .int .u8 (b.toNat : Int)
def flat (l : List Sec) : List Value := l.flatMap secV
theorem secV_length (s : Sec) : (secV s).length = s.length := by simp [secV]
theorem secV_one {s : Sec} {v : Value} (h : v ∈ secV s) : v.oneCell' = true := by
  simp only [secV, List.mem_map] at h
  obtain ⟨b, _, rfl⟩ := h
  rfl
theorem flat_append (a b : List Sec) : flat (a ++ b) = flat a ++ flat b := List.flatMap_append
theorem flat_length {l : List Sec} (h : ∀ s ∈ l, s.length = 64) : (flat l).length = l.length * 64 := by
  induction l with
  | nil => rfl
  | cons s l ih =>
    simp only [flat, List.flatMap_cons, List.length_append, secV_length, h s (by simp)]
    have := ih (fun x hx => h x (by simp [hx]))
    simp only [flat] at this
    rw [this, List.length_cons, Nat.add_mul]; omega
theorem flat_get {l : List Sec} (h : ∀ s ∈ l, s.length = 64) (i j : Nat) (hi : i < l.length) (hj : j < 64) : (flat l)[i * 64 + j]? = some (.int .u8 ((l[i]'hi)[j]'(by rw [h _ (List.getElem_mem hi)]; exact hj)).toNat) := by
  induction l generalizing i with
  | nil => simp at hi
  | cons s l ih =>
    have hs := h s (by simp)
    simp only [flat, List.flatMap_cons]
    cases i with
    | zero =>
      rw [List.getElem?_append_left (by rw [secV_length, hs]; omega)]
      simp [secV, hs, hj]
    | succ i =>
      rw [List.getElem?_append_right (by rw [secV_length, hs]; omega), secV_length, hs]
      have := ih (fun x hx => h x (by simp [hx])) i (by simpa using hi)
      simp only [flat] at this
      rw [show (i + 1) * 64 + j - 64 = i * 64 + j by omega, this]
      simp
def zeroSec : Sec := List.replicate 64 0

/-- What a disk is: the sectors that last, the versions that wait, the fuse. -/
structure DS where
  lasts : List Sec
  waits : Nat → List Sec
  fuse : Int
structure DS.Ok (D : DS) : Prop where
  some : 1 ≤ D.lasts.length
  most : D.lasts.length ≤ 4096
  wide : ∀ s ∈ D.lasts, s.length = 64
  wide' : ∀ i, ∀ s ∈ D.waits i, s.length = 64
  inside : ∀ i, D.waits i ≠ [] → i < D.lasts.length
  fuse : -1 ≤ D.fuse ∧ D.fuse ≤ 9223372036854775807
def freshD (n : Nat) : DS := ⟨List.replicate n zeroSec, fun _ => [], -1⟩

/-- How the disk lies in memory: its own block, its sectors' block, its map's block, a block for each sector that waits; S holds all of these. -/
structure DiskMem (w : World) (p : Nat) (S : Nat → Prop) (D : DS) (bl bm clock : Nat) (rs : List (MRow Int)) : Prop where
  own : w.heap[p]? = some (.cells #[.slice (some ⟨bl, 0, none⟩) D.lasts.length D.lasts.length, .map (some bm), .int .i64 D.fuse] 95 (0, 0))
  lasts : w.heap[bl]? = some (.cells (flat D.lasts).toArray 97 (0, 0))
  map : w.heap[bm]? = some (.map (rs.map (MRow.e (Value.int .i64))).toArray clock)
  keys : ∀ i : Nat, (D.waits i = [] ∧ mfind rs (i : Int) = none) ∨ (D.waits i ≠ [] ∧ ∃ g cap, mfind rs (i : Int) = some (.slice (some ⟨g, 0, none⟩) (D.waits i).length cap) ∧ w.ownsRow 0 97 64 (.slice (some ⟨g, 0, none⟩) (D.waits i).length cap) (D.waits i).length (flat (D.waits i)))
  rows : ∀ r ∈ rs, ∃ i : Nat, r.k = i ∧ i < D.lasts.length ∧ D.waits i ≠ [] ∧ ∃ g n cap, r.v = .slice (some ⟨g, 0, none⟩) n cap ∧ S g ∧ g ≠ bl
  nodup : (rs.map (·.k)).Nodup
  apart : (rs.map (·.v.ownBlock)).Nodup
  born : (rs.map (·.born)).Nodup
  since : ∀ r ∈ rs, r.born < clock
  few : rs.length ≤ 4096
  sp : S p
  sl : S bl
  sm : S bm
def DiskAt (w : World) (p : Nat) (S : Nat → Prop) (D : DS) : Prop := D.Ok ∧ ∃ bl bm clock rs, DiskMem w p S D bl bm clock rs

theorem DiskMem.fix {w w' : World} {p bl bm clock : Nat} {S : Nat → Prop} {D : DS} {rs : List (MRow Int)} (h : DiskMem w p S D bl bm clock rs) (hm : ∀ k, S k → k < w.heap.size → w'.heap[k]? = w.heap[k]?) : DiskMem w' p S D bl bm clock rs := by
  have hg : ∀ i : Nat, ∀ g n cap, mfind rs (i : Int) = some (.slice (some ⟨g, 0, none⟩) n cap) → S g := by
    intro i g n cap hf
    unfold mfind at hf
    rw [Option.map_eq_some_iff] at hf
    obtain ⟨r, hr, hv⟩ := hf
    obtain ⟨_, _, _, _, g', n', cap', hv', hS, _⟩ := h.rows r (List.mem_of_find?_eq_some hr)
    rw [hv] at hv'
    cases hv'
    exact hS
  refine ⟨(hm p h.sp (lt_of h.own)).trans h.own, (hm bl h.sl (lt_of h.lasts)).trans h.lasts, (hm bm h.sm (lt_of h.map)).trans h.map, fun i => ?_, h.rows, h.nodup, h.apart, h.born, h.since, h.few, h.sp, h.sl, h.sm⟩
  rcases h.keys i with hk | ⟨h0, g, cap, hf, ho⟩
  · exact .inl hk
  · refine .inr ⟨h0, g, cap, hf, ho.1, ?_⟩
    rcases ho.2 with ho2 | ⟨g', cap', cur, hv, h1, h2, h3⟩
    · exact .inl ho2
    · cases hv
      exact .inr ⟨g, cap, cur, rfl, h1, (hm g (hg i g _ cap hf) (lt_of h2)).trans h2, h3⟩
theorem DiskMem.mono {w : World} {p bl bm clock : Nat} {S T : Nat → Prop} {D : DS} {rs : List (MRow Int)} (h : DiskMem w p S D bl bm clock rs) (hS : ∀ k, S k → T k) : DiskMem w p T D bl bm clock rs :=
  ⟨h.own, h.lasts, h.map, h.keys, fun r hr => by
    obtain ⟨i, a, b, c, g, n, cap, d, e, f⟩ := h.rows r hr
    exact ⟨i, a, b, c, g, n, cap, d, hS _ e, f⟩, h.nodup, h.apart, h.born, h.since, h.few, hS _ h.sp, hS _ h.sl, hS _ h.sm⟩
theorem DiskAt.fix {w w' : World} {p : Nat} {S : Nat → Prop} {D : DS} (h : DiskAt w p S D) (hm : ∀ k, S k → k < w.heap.size → w'.heap[k]? = w.heap[k]?) : DiskAt w' p S D := by
  obtain ⟨ho, bl, bm, clock, rs, h⟩ := h
  exact ⟨ho, bl, bm, clock, rs, h.fix hm⟩
theorem DiskAt.mono {w : World} {p : Nat} {S T : Nat → Prop} {D : DS} (h : DiskAt w p S D) (hS : ∀ k, S k → T k) : DiskAt w p T D := by
  obtain ⟨ho, bl, bm, clock, rs, h⟩ := h
  exact ⟨ho, bl, bm, clock, rs, h.mono hS⟩
/-- What another call keeps keeps the disk, if the call may not turn its blocks. -/
theorem DiskAt.kept {w w' : World} {p : Nat} {S T : Nat → Prop} {D : DS} (h : DiskAt w p S D) (hk : Kept T w w') (hd : ∀ k, S k → k < w.heap.size → ¬ T k) : DiskAt w' p S D :=
  h.fix fun k hS hl => hk.block k hl (hd k hS hl)
theorem DiskAt.below {w w' : World} {p : Nat} {S : Nat → Prop} {D : DS} (h : DiskAt w p S D) (hk : Below w.heap.size w w') : DiskAt w' p S D :=
  h.fix fun k _ hl => hk.block k hl
theorem DiskAt.ok {w : World} {p : Nat} {S : Nat → Prop} {D : DS} (h : DiskAt w p S D) : D.Ok := h.1

/-! ### New, Len, burnt, burns, Fuse -/
theorem Try.infoSec : (Try.prog.info? 97).map (fun i => (i.zero.map (·.cells), i.size, i.bytes)) = some (some (Array.replicate 64 (.int .u8 0)), 64, 64) := by kernel_rfl
theorem zeroSec_get (n i j : Nat) (h : i < (List.replicate n zeroSec).length) (h2 : j < (List.replicate n zeroSec)[i].length) : (List.replicate n zeroSec)[i][j] = 0 := by
  simp only [List.getElem_replicate, zeroSec]
theorem zeroCells_flat (n : Nat) : (madeCells (Array.replicate 64 (.int .u8 0)) (n * 64)) = (flat (List.replicate n zeroSec)).toArray := by
  have hl : ∀ s ∈ List.replicate n zeroSec, s.length = 64 := fun s hs => by rw [List.eq_of_mem_replicate hs]; rfl
  apply Array.ext_getElem?
  intro k
  by_cases hk : k < n * 64
  · have h1 : k = k / 64 * 64 + k % 64 := by omega
    have h2 : k / 64 < n := by omega
    have h3 := flat_get hl (k / 64) (k % 64) (by simpa using h2) (by omega)
    rw [← h1] at h3
    simp only [zeroSec_get] at h3
    refine Eq.trans ?_ ((List.getElem?_toArray ..).trans h3).symm
    have h4 : k % 64 < 64 := by omega
    simp [madeCells, hk, h4]
  · rw [Array.getElem?_eq_none (by simp [madeCells]; omega), Array.getElem?_eq_none (by simp [flat_length hl]; omega)]

theorem DiskAt.fresh (w : World) (n : Nat) (h1 : 1 ≤ n) (h2 : n ≤ 4096) (S : Nat → Prop) (hS : ∀ k, w.heap.size ≤ k → S k) :
    DiskAt (((w.alloc (.cells (madeCells (Array.replicate 64 (.int .u8 0)) (n * 64)) 97)).alloc (.map #[] 0)).alloc (.cells #[.slice (some ⟨w.heap.size, 0, none⟩) n n, .map (some (w.heap.size + 1)), .int .i64 (-1)] 95)) (w.heap.size + 1 + 1) S (freshD n) := by
  refine ⟨⟨by simpa [freshD] using h1, by simpa [freshD] using h2, fun s hs => by simp only [freshD] at hs; rw [List.eq_of_mem_replicate hs]; rfl, fun _ s hs => by simp [freshD] at hs, fun i hi => by simp [freshD] at hi, by simp [freshD]⟩, w.heap.size, w.heap.size + 1, 0, [], ?_⟩
  refine ⟨?_, ?_, ?_, fun i => .inl ⟨rfl, rfl⟩, by simp, by simp, by simp, by simp, by simp, by simp, hS _ (by omega), hS _ (by omega), hS _ (by omega)⟩
  · have := heap_alloc_new ((w.alloc (.cells (madeCells (Array.replicate 64 (.int .u8 0)) (n * 64)) 97)).alloc (.map #[] 0)) (.cells #[.slice (some ⟨w.heap.size, 0, none⟩) n n, .map (some (w.heap.size + 1)), .int .i64 (-1)] 95)
    simpa [freshD] using this
  · rw [Below.heap_alloc _ _ _ (by simp; omega), Below.heap_alloc _ _ _ (by simp), heap_alloc_new, zeroCells_flat]; rfl
  · rw [Below.heap_alloc _ _ _ (by simp)]
    have := heap_alloc_new (w.alloc (.cells (madeCells (Array.replicate 64 (.int .u8 0)) (n * 64)) 97)) (.map #[] 0)
    simpa using this

set_option maxHeartbeats 400000 in
theorem new_ok (n : Nat) (w : World) (h1 : 1 ≤ n) (h2 : n ≤ 4096) : Calls Try.prog 21 #[.int .i64 n] w fun e w' => ∃ p, e = .returned (.tuple #[.pointer (some ⟨p, 0, none⟩), .int .i64 0]) ∧ DiskAt w' p (fun k => w.heap.size ≤ k) (freshD n) ∧ Below w.heap.size w w' := by
  obtain ⟨i0, hi, hz, hs, hby⟩ : ∃ i0, Try.prog.info? 97 = some i0 ∧ (∃ z, i0.zero = some z ∧ z.cells = Array.replicate 64 (.int .u8 0)) ∧ i0.size = 64 ∧ i0.bytes = 64 := by
    have := Try.infoSec
    cases h : Try.prog.info? 97 with
    | none => rw [h] at this; cases this
    | some i => rw [h] at this; simp at this; exact ⟨i, rfl, this.1, this.2.1, this.2.2⟩
  obtain ⟨z, hz1, hz2⟩ := hz
  have hmk : (Instr.makeSlice 92 (.int .i64 n) (.int .i64 n)).run Try.prog w = .ok (.slice (some ⟨w.heap.size, 0, none⟩) n n) (w.alloc (.cells (madeCells (Array.replicate 64 (.int .u8 0)) (n * 64)) 97)) := by
    have := run_make (P := Try.prog) w 92 97 i0 z Try.underlying92 hi hz1 .i64 .i64 n n (by omega) (by omega) (by rw [hby]; omega) (by omega)
    rw [hz2, hs] at this
    simpa using this
  have hb : ∀ W : World, (Instr.build 95 #[(0, .slice (some ⟨w.heap.size, 0, none⟩) n n), (1, .map (some (w.heap.size + 1))), (2, .int .i64 (-1))]).run Try.prog W = .ok (.agg #[.slice (some ⟨w.heap.size, 0, none⟩) n n, .map (some (w.heap.size + 1)), .int .i64 (-1)]) W := fun W => run_build W _ _ _ (by kernel_rfl)
  have hmm := @run_makeMap Try.prog
  have hf := DiskAt.fresh w n h1 h2 (fun k => w.heap.size ≤ k) (fun _ h => h)
  have HF := Lib.hid hf
  clear hf hi hz1 hz2 hs hby
  have q1 : (1 : Int) ≤ (n : Int) := by omega
  have q2 : (n : Int) ≤ 4096 := by omega
  have q3 : decide ((n : Int) < 1) = false := by simp; omega
  have q4 : decide (4096 < (n : Int)) = false := by simp; omega
  clear h1 h2
  go_enter Try.func21, Try.ntmps21
  go_wp2_with fail
  go_ret2
  refine ⟨_, rfl, ?_, ?_⟩
  · exact HF.out
  · exact (((Below.refl _ _).alloc (Nat.le_refl _) _).alloc (by simp) _).alloc (by simp; omega) _
end Go.Proofs.Ythbdlfkdemjpoaa
