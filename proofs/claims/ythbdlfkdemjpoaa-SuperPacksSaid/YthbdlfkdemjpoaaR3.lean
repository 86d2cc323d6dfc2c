/- What the second reference's Write does. No condition. -/
import Derived.Test.YthbdlfkdemjpoaaR2b
import Derived.Deep.RegionHeld3
import Derived.Deep.RegionLawGrows
import Derived.Laws.BytesArg
import Derived.Shelf.Bytes.SlSmallAll
namespace Go.Proofs.Ythbdlfkdemjpoaa
open Go.RowKit Go.Maps
attribute [local go_sem ↓] Go.wp_at_zero Go.wp_at_succ

theorem conv_text (w : World) (A : Option Addr) (l : List UInt8) (c : Nat) (h : Bytes w A l) : (convert 22 9 (.slice A l.length c)).run Try.prog w = .ok (.string ⟨l.toArray⟩) w := by
  rcases h with rfl | ⟨b, o, rfl, hl, hc⟩
  · exact run_convert_bytes_zero w 22 5 Try.underlying22 Try.underlying5 A c 9 Try.underlying9
  · have := run_convert_bytes_arg (P := Try.prog) w 22 5 Try.underlying22 Try.underlying5 b o l.length c (l.map fun x => (x.toNat : Int)) (by simp) (fun i hi => by
      rw [hc i (.int .u8 (l[i].toNat : Int)) (by simp [secV, hi])]
      simp [List.getD_eq_getElem?_getD, hi]) 9 Try.underlying9
    rw [this]
    have e : strOfNums (l.map fun x => (x.toNat : Int)) = ⟨l.toArray⟩ := by simp [strOfNums, Function.comp_def]
    rw [e]

theorem Try.infoByte : (Try.prog.info? 5).map (fun i => (i.zero.map (·.cells), i.size, i.bytes)) = some (some #[.int .u8 0], 1, 1) := by kernel_rfl
def zerosC (m : Nat) : Array Value := (secV (List.replicate m 0)).toArray
theorem madeCells_zeros (m : Nat) : madeCells #[Value.int .u8 0] (m * 1) = zerosC m := by
  have : secV (List.replicate m 0) = List.replicate m (Value.int .u8 0) := by simp [secV]
  unfold zerosC madeCells
  rw [this]
  apply Array.ext
  · simp
  · intro j h1 h2
    simp [Nat.mod_one]
theorem make_bytes (W : World) (m : Nat) (hm : m ≤ 64) : (Instr.makeSlice 22 (.int .i64 m) (.int .i64 m)).run Try.prog W = .ok (.slice (some ⟨W.heap.size, 0, none⟩) m m) (W.alloc (.cells (zerosC m) 5)) := by
  obtain ⟨i0, hi, hz, hs, hby⟩ : ∃ i0, Try.prog.info? 5 = some i0 ∧ (∃ z, i0.zero = some z ∧ z.cells = #[.int .u8 0]) ∧ i0.size = 1 ∧ i0.bytes = 1 := by
    have := Try.infoByte
    cases h : Try.prog.info? 5 with
    | none => rw [h] at this; cases this
    | some i => rw [h] at this; simp at this; exact ⟨i, rfl, this.1, this.2.1, this.2.2⟩
  obtain ⟨z, hz1, hz2⟩ := hz
  have := run_make (P := Try.prog) W 22 5 i0 z Try.underlying22 hi hz1 .i64 .i64 m m (by omega) (by omega) (by rw [hby]; omega) (by omega)
  rw [hz2, hs] at this
  simp only [Int.toNat_natCast] at this
  rw [madeCells_zeros] at this
  exact this
theorem zeros_bytes (W : World) (m : Nat) : Bytes (W.alloc (.cells (zerosC m) 5)) (some ⟨W.heap.size, 0, none⟩) (List.replicate m 0) := bytes_lit W _ _ _ rfl

theorem two_alloc (w : World) (o1 o2 : Obj) (k : Nat) (hk : k < w.heap.size) : ((w.alloc o1).alloc o2).drew.heap[k]? = w.heap[k]? :=
  (Below.heap_alloc (w.alloc o1) o2 k (by simp; omega)).trans (Below.heap_alloc w o1 k hk)
theorem two_new (w : World) (o1 o2 : Obj) : ((w.alloc o1).alloc o2).drew.heap[w.heap.size + 1]? = some o2 := by
  have := heap_alloc_new (w.alloc o1) o2
  rw [show (w.alloc o1).heap.size = w.heap.size + 1 by simp] at this
  exact this
theorem pad_text (l : List UInt8) (m : Nat) (hm : m = 64 - l.length) : ({ data := l.toArray } ++ { data := Array.replicate m 0 } : ByteArray) = ⟨(pad l).toArray⟩ := by
  subst hm
  apply ByteArray.ext
  simp [pad, ByteArray.data_append]

theorem RefMem.mono {w : World} {q bo cap : Nat} {T T2 : Nat → Prop} {D : DS} {outer : Array Value} {gs : Nat → Nat} (h : RefMem w q T D bo cap outer gs) (hT : ∀ k, T k → k < w.heap.size → T2 k) : RefMem w q T2 D bo cap outer gs :=
  ⟨h.own, h.rim, h.wide, h.rows, h.inj, hT _ h.tq (lt_of h.own), hT _ h.tb (lt_of h.rim), fun i hi => hT _ (h.tg i hi) (by obtain ⟨v, _, hv⟩ := h.rows i hi; exact hv.lt)⟩
theorem rk_exchange {B : Nat} {w V w1 : World} {q bo cap : Nat} {T : Nat → Prop} {D D' : DS} {outer : Array Value} {gs : Nat → Nat} {i g' : Nat} {row' : Value} (hbase : ∀ k, T k → B ≤ k ∧ k < w.heap.size) (hlow : B ≤ w.heap.size)
    (hk : Kept T w V) (h : RefMem V q T D bo cap outer gs) (hi : i < D.lasts.length) (hmore : RowMore V w1 (gs i) g' row' (D'.vers i)) (hok : D'.Ok) (hfu : D'.fuse = D.fuse) (hlen : D'.lasts.length = D.lasts.length) (hoth : ∀ j, j ≠ i → D'.vers j = D.vers j) :
    ∃ T', Rk B (w1.setCell ⟨bo, i, none⟩ row') q T' D' ∧ Kept T w (w1.setCell ⟨bo, i, none⟩ row') ∧ ∀ k, T' k → T k ∨ w.heap.size ≤ k := by
  have h1 := h.exchange i hi hmore.far hmore.row hmore.at_ hfu hlen hoth
  have hsz : w.heap.size ≤ (w1.setCell ⟨bo, i, none⟩ row').heap.size := by simp only [World.setCell, Array.size_modify]; exact Nat.le_trans hk.size hmore.size
  refine ⟨fun k => (T k ∨ w.heap.size ≤ k) ∧ k < (w1.setCell ⟨bo, i, none⟩ row').heap.size, ⟨hok, ⟨_, _, _, _, h1.mono fun k hk' hl => ⟨hk'.imp id fun h => Nat.le_trans hk.size h, hl⟩⟩, fun k hk' => ⟨hk'.1.elim (fun h => (hbase k h).1) (fun h => Nat.le_trans hlow h), hk'.2⟩, Nat.le_trans hlow hsz⟩, ?_, fun k hk' => hk'.1⟩
  have hgl : gs i < V.heap.size := by obtain ⟨v, _, hv⟩ := h.rows i hi; exact hv.lt
  refine Kept.setCell ⟨hmore.os.trans hk.os, hmore.tape.trans hk.tape, hmore.output.trans hk.output, Nat.le_trans hk.size hmore.size, fun k hkl hkT => ?_⟩ _ _ (fun _ => h.tb)
  rw [hmore.far k (Nat.lt_of_lt_of_le hkl hk.size) (fun e => hkT (e ▸ h.tg i hi))]
  exact hk.block k hkl hkT
theorem DS.write_vers (D : DS) (i : Nat) (l : List UInt8) : (D.write i l).vers i = D.vers i ++ [pad l] := by
  simp [DS.vers, DS.write, DS.put, DS.burn]
theorem DS.write_vers_ne (D : DS) (i : Nat) (l : List UInt8) (j : Nat) (h : j ≠ i) : (D.write i l).vers j = D.vers j := by
  simp [DS.vers, DS.write, DS.put, DS.burn, h]
theorem DS.burn_ok {D : DS} (h : D.Ok) : D.burn.Ok :=
  ⟨h.some, h.most, h.wide, h.wide', h.inside, by show -1 ≤ (if 0 < D.fuse then D.fuse - 1 else D.fuse) ∧ (if 0 < D.fuse then D.fuse - 1 else D.fuse) ≤ 9223372036854775807; have := h.fuse; split <;> constructor <;> omega⟩

set_option maxHeartbeats 1000000 in
theorem rwrite_dead {B : Nat} (q : Nat) (T : Nat → Prop) (D : DS) (i : Int) (A : Option Addr) (n c : Nat) (w : World) (h : Rk B w q T D) (hf : D.fuse = 0) :
    Calls Try.prog 24 #[.pointer (some ⟨q, 0, none⟩), .int .i64 i, .slice A n c] w fun e w' => e = .returned (.int .i64 6) ∧ w = w' := by
  obtain ⟨bo, cap, outer, gs, hm⟩ := h.mem
  have c1 := cell_of hm.own 1
  simp only [List.getElem?_toArray, List.getElem?_cons_succ, List.getElem?_cons_zero] at c1
  rw [hf] at c1
  clear h hm hf
  go_enter Try.func24, Try.ntmps24
  go_wp2_with fail
  go_ret
  exact ⟨rfl, rfl⟩
set_option maxHeartbeats 1000000 in
theorem rwrite_bad {B : Nat} (q : Nat) (T : Nat → Prop) (D : DS) (i : Int) (A : Option Addr) (l : List UInt8) (c : Nat) (w : World) (h : Rk B w q T D) (hf : D.fuse ≠ 0) (hb : D.bad i l) :
    Calls Try.prog 24 #[.pointer (some ⟨q, 0, none⟩), .int .i64 i, .slice A l.length c] w fun e w' => e = .returned (.int .i64 1) ∧ w = w' := by
  obtain ⟨bo, cap, outer, gs, hm⟩ := h.mem
  have c0 := cell_of hm.own 0
  have c1 := cell_of hm.own 1
  simp only [List.getElem?_toArray, List.getElem?_cons_succ, List.getElem?_cons_zero] at c0 c1
  have q0 : (D.fuse == 0) = false := by simpa using hf
  clear h hm
  by_cases h1 : i < 0
  · have q1 : decide (i < 0) = true := by simpa using h1
    go_enter Try.func24, Try.ntmps24
    go_wp2_with fail
    go_ret
    exact ⟨rfl, rfl⟩
  · have q1 : decide (i < 0) = false := by simp; omega
    by_cases h2 : (D.lasts.length : Int) ≤ i
    · have q2 : decide ((D.lasts.length : Int) ≤ i) = true := by simpa using h2
      go_enter Try.func24, Try.ntmps24
      go_wp2_with fail
      go_ret
      exact ⟨rfl, rfl⟩
    · have q2 : decide ((D.lasts.length : Int) ≤ i) = false := by simp; omega
      have q3 : decide ((64 : Int) < (l.length : Int)) = true := by rcases hb with h | h | h <;> simp <;> omega
      go_enter Try.func24, Try.ntmps24
      go_wp2_with fail
      go_ret
      exact ⟨rfl, rfl⟩
theorem conv_zeros (W : World) (h m : Nat) (hb : Bytes W (some ⟨h, 0, none⟩) (List.replicate m 0)) : (convert 22 9 (.slice (some ⟨h, 0, none⟩) m m)).run Try.prog W = .ok (.string ⟨(List.replicate m 0).toArray⟩) W := by
  have := conv_text W _ (List.replicate m 0) m hb
  rwa [List.length_replicate] at this
theorem row_ne {w : World} {q bo cap : Nat} {T : Nat → Prop} {D : DS} {outer : Array Value} {gs : Nat → Nat} (hm : RefMem w q T D bo cap outer gs) (i : Nat) (hi : i < D.lasts.length) : gs i ≠ bo ∧ gs i ≠ q ∧ bo ≠ q := by
  obtain ⟨v, _, o, c, cs, _, h4, _⟩ := hm.rows i hi
  refine ⟨fun e => ?_, fun e => ?_, fun e => ?_⟩
  · rw [e, hm.rim] at h4; injection h4 with a; injection a with _ a; exact absurd a (by decide)
  · rw [e, hm.own] at h4; injection h4 with a; injection a with _ a; exact absurd a (by decide)
  · have a := hm.rim; rw [e, hm.own] at a; injection a with a; injection a with _ a; exact absurd a (by decide)
theorem Bytes.fixN {w w' : World} {A : Option Addr} {l : List UInt8} (h : Bytes w A l) (hs : w.heap.size ≤ w'.heap.size) (hm : l ≠ [] → ∀ b o, A = some ⟨b, o, none⟩ → b < w.heap.size → w'.heap[b]? = w.heap[b]?) : Bytes w' A l := by
  by_cases hn : l = []
  · exact .inl hn
  · exact h.fix hs (hm hn)
theorem Ints.fixN {w w' : World} {A : Option Addr} {l : List Int} (h : Ints w A l) (hs : w.heap.size ≤ w'.heap.size) (hm : l ≠ [] → ∀ b o, A = some ⟨b, o, none⟩ → b < w.heap.size → w'.heap[b]? = w.heap[b]?) : Ints w' A l := by
  by_cases hn : l = []
  · exact .inl hn
  · exact h.fix hs (hm hn)
theorem held_ks {w : World} {q bo cap : Nat} {T : Nat → Prop} {D : DS} {outer : Array Value} {gs : Nat → Nat} (hm : RefMem w q T D bo cap outer gs) (i : Nat) (hi : i < D.lasts.length) {A : Option Addr} {l : List UInt8} (c : Nat) (hA : Bytes w A l) (hAT : l ≠ [] → ∀ b o, A = some ⟨b, o, none⟩ → ¬ T b) :
    ∀ W : World, (∀ k, k < w.heap.size → k ≠ gs i → k ≠ bo → W.heap[k]? = w.heap[k]?) → W.cell? ⟨q, 0, none⟩ = some (.slice (some ⟨bo, 0, none⟩) D.lasts.length cap) ∧ (convert 22 9 (.slice A l.length c)).run Try.prog W = .ok (.string ⟨l.toArray⟩) W := by
  intro W hW
  obtain ⟨n1, n2, n3⟩ := row_ne hm i hi
  refine ⟨?_, conv_text W A l c ?_⟩
  · rw [World.cell?_of_block (w := w) (hW q (lt_of hm.own) (Ne.symm n2) (Ne.symm n3)), cell_of hm.own 0]; rfl
  · by_cases hn : l = []
    · exact .inl hn
    have hT : ∀ b o, A = some ⟨b, o, none⟩ → b ≠ gs i ∧ b ≠ bo := fun b o e => ⟨fun e' => hAT hn b o e (e' ▸ hm.tg i hi), fun e' => hAT hn b o e (e' ▸ hm.tb)⟩
    rcases hA with h0 | ⟨b, o, e, hb, hr⟩
    · exact .inl h0
    · refine .inr ⟨b, o, e, ?_, fun j v hjv => ?_⟩
      · have h1 := hW b hb (hT b o e).1 (hT b o e).2
        rw [Array.getElem?_eq_getElem hb] at h1
        exact (Array.getElem?_eq_some_iff.1 h1).1
      · rw [World.cell?_of_block (w := w) (hW b hb (hT b o e).1 (hT b o e).2)]; exact hr j v hjv
end Go.Proofs.Ythbdlfkdemjpoaa
