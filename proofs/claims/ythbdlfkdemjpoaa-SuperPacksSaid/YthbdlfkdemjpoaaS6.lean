/- What the sector package's Waiting tells. No condition. -/
import Derived.Test.YthbdlfkdemjpoaaS5
import Derived.Test.YthbdlfkdemjpoaaIter
import Derived.Lib.SlKeysI
import Derived.RangeFuncBox
namespace Go.Proofs.Ythbdlfkdemjpoaa
open Go.RowKit Go.Maps Go.Sort Go.Shelf

/-- The sectors that wait, rising. -/
def DS.waiting (D : DS) : List Nat := (List.range D.lasts.length).filter fun i => !(D.waits i).isEmpty
theorem DS.mem_waiting {D : DS} {i : Nat} : i ∈ D.waiting ↔ i < D.lasts.length ∧ D.waits i ≠ [] := by
  simp [DS.waiting]
theorem DS.waiting_rises (D : DS) : D.waiting.Pairwise (· < ·) := List.Pairwise.filter _ List.pairwise_lt_range

def RN : Value → Option (DataW Unit × List MemPlace) := fun _ => some (.nil, [])
theorem key_wf {n : Nat} (h : n < 4096) : (Lit.int .i64 (n : Int)).wf = true := WalkArith.wf_i64 (by omega)
theorem DiskMem.owns {w : World} {p bl bm clock : Nat} {S : Nat → Prop} {D : DS} {rs : List (MRow Int)} (h : DiskMem w p S D bl bm clock rs) (hok : D.Ok) :
    ∃ D0 : DataW Unit, w.ownsMap Try.prog 3 RN bm 4096 D0 ∧ (intKeys D0).Perm (rs.map (·.k)) ∧ Maps.size D0 ≤ 4096 := by
  have hkey : ∀ r ∈ rs, keyOf Try.prog 3 (.int .i64 r.k) = some (.int .i64 r.k) := by
    intro r hr
    obtain ⟨j, a, b, _⟩ := h.rows r hr
    rw [a]
    exact keyOf_int_mk Try.underlying3 (key_wf (Nat.lt_of_lt_of_le b hok.most))
  have hrd : ∀ r ∈ rs, Go.WideElems.rd Try.prog 3 RN (MRow.e (Value.int .i64) r) = some (.int .i64 r.k, .nil) := by
    intro r hr
    simp [Go.WideElems.rd, MRow.e, hkey r hr, RN]
  have hrg : (rs.map (MRow.e (Value.int .i64))).map (Go.WideElems.rg Try.prog 3 RN) = rs.map fun r => (Lit.int .i64 r.k, DataW.nil) := by
    rw [List.map_map]
    refine List.map_congr_left fun r hr => ?_
    simp [Go.WideElems.rg, hrd r hr]
  have hperm := Go.WideShapes.sorted_perm (H := Unit) (rs.map fun r => (Lit.int .i64 r.k, DataW.nil))
  refine ⟨.map ((rs.map fun r => (Lit.int .i64 r.k, DataW.nil)).foldr DataW.insert []), ⟨_, clock, h.map, ⟨?_, ⟨?_, ?_, ?_⟩, ?_⟩, ?_, ?_⟩, ?_, ?_⟩
  · simpa using Nat.le_trans h.few (by decide)
  · intro x hx
    rw [List.toList_toArray, List.mem_map] at hx
    obtain ⟨r, hr, rfl⟩ := hx
    exact h.since r hr
  · rw [List.toList_toArray, List.map_map]
    exact h.born
  · rw [List.toList_toArray, List.map_map]
    refine List.pairwise_map.2 ((List.pairwise_map.1 h.nodup).imp fun {a b} hab he => hab ?_)
    simp only [Function.comp, MRow.e, Value.int.injEq, true_and] at he
    exact he
  · intro x hx
    rw [List.toList_toArray, List.mem_map] at hx
    obtain ⟨r, hr, rfl⟩ := hx
    exact ⟨_, hrd r hr⟩
  · simpa using h.few
  · rw [List.toList_toArray, hrg]
  · show (List.map _ _).Perm _
    refine (hperm.map _).trans ?_
    rw [List.map_map]
    exact List.Perm.of_eq rfl
  · rw [Maps.size_eq, hperm.length_eq, List.length_map]
    exact h.few

theorem sorted_waiting {D : DS} {rs : List (MRow Int)} (hk : ∀ i : Nat, i ∈ D.waiting ↔ (i : Int) ∈ rs.map (·.k)) (hr : ∀ r ∈ rs, ∃ j : Nat, r.k = j) (hn : (rs.map (·.k)).Nodup) {ss : List Int} (hs : ss.Perm (rs.map (·.k))) :
    ss.mergeSort (fun x y => decide (x ≤ y)) = D.waiting.map (fun i : Nat => (i : Int)) := by
  have h1 : (ss.mergeSort (fun x y => decide (x ≤ y))).Pairwise (fun a b => decide (a ≤ b) = true) := List.pairwise_mergeSort (le := fun x y : Int => decide (x ≤ y)) (fun a b c h1 h2 => by simp at *; omega) (fun a b => by simp; omega) ss
  have h2 : (D.waiting.map (fun i : Nat => (i : Int))).Pairwise (fun a b => decide (a ≤ b) = true) := List.pairwise_map.2 (D.waiting_rises.imp fun {a b} h => by simp; omega)
  have hnw : (D.waiting.map (fun i : Nat => (i : Int))).Nodup := List.pairwise_map.2 (D.waiting_rises.imp fun {a b} h he => by omega)
  have hp : (ss.mergeSort (fun x y => decide (x ≤ y))).Perm (D.waiting.map (fun i : Nat => (i : Int))) := by
    refine (List.mergeSort_perm _ _).trans (hs.trans ?_)
    refine (List.perm_ext_iff_of_nodup hn hnw).2 fun x => ?_
    constructor
    · intro hx
      obtain ⟨r, hr', rfl⟩ := List.mem_map.1 hx
      obtain ⟨j, e⟩ := hr r hr'
      rw [e] at hx ⊢
      exact List.mem_map_of_mem ((hk j).2 hx)
    · intro hx
      obtain ⟨j, hj, rfl⟩ := List.mem_map.1 hx
      exact (hk j).1 hj
  exact List.Perm.eq_of_pairwise (le := fun a b => decide (a ≤ b) = true) (fun a b _ _ h1 h2 => by simp at h1 h2; omega) h1 h2 hp

set_option maxHeartbeats 400000 in
theorem waiting_nil (w : World) : Calls Try.prog 33 #[.pointer none] w fun e w' => e = .returned (.slice none 0 0) ∧ w = w' := by
  go_enter Try.func33, Try.ntmps33
  go_wp2_with fail
  go_ret
  exact ⟨rfl, rfl⟩

set_option maxHeartbeats 1000000 in
theorem waiting_core (p b : Nat) (D : DS) (D0 : DataW Unit) (w : World) (c1 : w.cell? ⟨p, 1, none⟩ = some (.map (some b))) (hown : w.ownsMap Try.prog 3 RN b 4096 D0) (hsize : Maps.size D0 ≤ 4096)
    (hsort : ∀ ss : List Int, ss.Perm (intKeys D0) → ss.mergeSort (fun x y => decide (x ≤ y)) = D.waiting.map (fun i : Nat => (i : Int))) :
    Calls Try.prog 33 #[.pointer (some ⟨p, 0, none⟩)] w fun e w' => ∃ v, e = .returned v ∧ w'.ownsRow w.heap.size 3 1 v D.waiting.length (D.waiting.map fun i : Nat => Value.int .i64 (i : Int)) ∧ Below w.heap.size w w' := by
  refine (callsIn_wide (n := 6)).1 ?_
  have hbl := hown.lt
  have hlen : ∀ ss : List Int, ss.Perm (intKeys D0) → ss.length = D.waiting.length := fun ss hs => by
    have := congrArg List.length (hsort ss hs)
    simpa using this
  have hseq : SeqGives Fence.wide 2 Try.prog 80 #[.pointer (some ⟨w.heap.size, 0, none⟩)] encZ (fun ss => ss.Perm (intKeys D0)) (Maps.size D0) (w.alloc (.cells #[.map (some b)] 93)) :=
    AnyZI.keys_gives (ρ := Try.keysInt_ren) { Try.keysInt with } Fence.wide _ trivial rfl (by omega) w.heap.size b 4096 D0 _ (by simp) (by simp) (by
      obtain ⟨es, clock, hb, Ft, hs, hD⟩ := hown
      exact ⟨es, clock, (Below.heap_alloc _ _ b hbl).trans hb, Ft, hs, hD⟩)
  have cK : ∀ mb W, CallsIn Fence.wide 5 Try.prog 64 #[.map mb] W fun e w' => e = .returned (.func (.func 80) #[] #[.pointer (some ⟨W.heap.size, 0, none⟩)]) ∧ w' = W.alloc (.cells #[.map mb] 93) := fun mb W => AnyZI.keys_in Try.keysInt Fence.wide 5 trivial rfl mb W
  have cS := AnyZI.sorted_in Try.sortedInt Fence.wide 5 trivial trivial trivial trivial rfl (by omega) (Try.sortsInt _) (enters_of Try.func79 (by kernel_rfl) rfl) 80 #[.pointer (some ⟨w.heap.size, 0, none⟩)] trivial (enters_of Try.func80 (by kernel_rfl) rfl) _ _ (Nat.le_trans hsize (by decide)) (by omega) _ hseq
  change CallsIn _ _ Try.prog 63 _ _ _ at cS
  have HS := Lib.hid hsort; have HL := Lib.hid hlen; have HCS := Lib.hid cS
  clear hsort hlen hseq hown cS
  have hfK : Fence.wide.fn 64 := trivial
  have hfS : Fence.wide.fn 63 := trivial
  refine callsIn_of_wp Try.func33 rfl trivial ?_ rfl
  simp only [Try.ntmps33, List.size_toArray, List.length_cons, List.length_nil, Nat.reduceAdd, Nat.reduceSub, Array.replicate_succ, Array.replicate_zero, List.push_toArray, List.append_toArray, List.nil_append, List.cons_append]
  gi_wp2_with (first | (gi_at_call 64; refine (cK _ _).mono ?_; rintro e w' ⟨rfl, rfl⟩) | (gi_at_call 63; refine HCS.out.mono ?_; rintro e w' ⟨v, ss, rfl, hS, hrow, hnil, hb⟩; have HR := Lib.hid hrow; have HSS := Lib.hid hS; have HBB := Lib.hid hb; clear hrow hS hnil hb))
  go_ret
  refine ⟨v, rfl, ?_, ((Below.refl _ w).alloc (Nat.le_refl _) _).trans (HBB.out.mono (by simp))⟩
  have h1 := ownsRow_base_a HR.out (base' := w.heap.size) (by simp)
  rw [HS.out ss HSS.out, HL.out ss HSS.out, List.map_map] at h1
  exact h1
theorem waiting_any (p : Nat) (S : Nat → Prop) (D : DS) (w : World) (h : DiskAt w p S D) :
    Calls Try.prog 33 #[.pointer (some ⟨p, 0, none⟩)] w fun e w' => ∃ v, e = .returned v ∧ w'.ownsRow w.heap.size 3 1 v D.waiting.length (D.waiting.map fun i : Nat => Value.int .i64 (i : Int)) ∧ Below w.heap.size w w' := by
  obtain ⟨hok, bl, b, clock, rs, hm⟩ := h
  obtain ⟨D0, hown, hkeys, hsize⟩ := hm.owns hok
  have hw : ∀ i : Nat, i ∈ D.waiting ↔ (i : Int) ∈ rs.map (·.k) := by
    intro i
    rw [DS.mem_waiting]
    constructor
    · rintro ⟨_, h0⟩
      rcases hm.keys i with ⟨h, _⟩ | ⟨_, g, cap, hf, _⟩
      · exact absurd h h0
      · obtain ⟨r, hr, hk, _⟩ := mfind_some hf
        exact hk ▸ List.mem_map_of_mem hr
    · intro hi
      obtain ⟨r, hr, hk⟩ := List.mem_map.1 hi
      obtain ⟨j, a, bb, c, _⟩ := hm.rows r hr
      have : j = i := by rw [hk] at a; omega
      subst this
      exact ⟨bb, c⟩
  have hsort : ∀ ss : List Int, ss.Perm (intKeys D0) → ss.mergeSort (fun x y => decide (x ≤ y)) = D.waiting.map (fun i : Nat => (i : Int)) := fun ss hs =>
    sorted_waiting hw (fun r hr => by obtain ⟨j, a, _⟩ := hm.rows r hr; exact ⟨j, a⟩) hm.nodup (hs.trans hkeys)
  exact waiting_core p b D D0 w (cell_of hm.own 1) hown hsize hsort
end Go.Proofs.Ythbdlfkdemjpoaa
