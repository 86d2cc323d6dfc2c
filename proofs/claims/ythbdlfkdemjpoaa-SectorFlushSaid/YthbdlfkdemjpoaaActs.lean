/- How a script of acts lies in memory: rows of records of a kind, a number, bytes, picks. No condition. -/
import Derived.Test.YthbdlfkdemjpoaaArgs
import Derived.Lib.SmallJoins
namespace Go.Proofs.Ythbdlfkdemjpoaa
open Go.ChangeShapes Go.WideShapes Go.ChangeAt Go.RowKit

/-- An act of a script. -/
structure AAct where
  kind : Int
  idx : Int
  bytes : List UInt8
  picks : List Int
/-- An act that lies at a block's cell. -/
def ActAt (w : World) (b o : Nat) (x : AAct) : Prop :=
  ∃ A c A' c', w.cell? ⟨b, o, none⟩ = some (.int .i64 x.kind) ∧ w.cell? ⟨b, o + 1, none⟩ = some (.int .i64 x.idx) ∧ w.cell? ⟨b, o + 2, none⟩ = some (.slice A x.bytes.length c) ∧ w.cell? ⟨b, o + 3, none⟩ = some (.slice A' x.picks.length c') ∧ Bytes w A x.bytes ∧ Ints w A' x.picks
structure AAct.Ok (x : AAct) : Prop where
  kind : (Lit.int .i64 x.kind).wf = true
  idx : (Lit.int .i64 x.idx).wf = true
  bytes : x.bytes.length ≤ 140737488351232
  picks : x.picks.length ≤ 140737488351232
  nums : ∀ z ∈ x.picks, (Lit.int .i64 z).wf = true
def Acts (w : World) (A : Option Addr) (l : List AAct) : Prop := l = [] ∨ ∃ b o, A = some ⟨b, o, none⟩ ∧ b < w.heap.size ∧ ∀ i (hi : i < l.length), ActAt w b (o + i * 4) l[i]
theorem ActAt.below {w w' : World} {b o : Nat} {x : AAct} (h : ActAt w b o x) (hb : Below w.heap.size w w') (hl : b < w.heap.size) : ActAt w' b o x := by
  obtain ⟨A, c, A', c', h0, h1, h2, h3, h4, h5⟩ := h
  have e : ∀ o, w'.cell? ⟨b, o, none⟩ = w.cell? ⟨b, o, none⟩ := fun o => World.cell?_of_block (hb.block b hl)
  exact ⟨A, c, A', c', by rw [e, h0], by rw [e, h1], by rw [e, h2], by rw [e, h3], h4.below hb, h5.below hb⟩
theorem Acts.below {w w' : World} {A : Option Addr} {l : List AAct} (h : Acts w A l) (hb : Below w.heap.size w w') : Acts w' A l := by
  rcases h with h | ⟨b, o, rfl, hl, hc⟩
  · exact .inl h
  · exact .inr ⟨b, o, rfl, Nat.lt_of_lt_of_le hl hb.size, fun i hi => (hc i hi).below hb hl⟩
theorem Acts.get {w : World} {A : Option Addr} {l : List AAct} (h : Acts w A l) (k : Nat) (hk : k < l.length) : ∃ b o, A = some ⟨b, o, none⟩ ∧ b < w.heap.size ∧ ActAt w b (o + k * 4) l[k] := by
  rcases h with rfl | ⟨b, o, rfl, hl, hc⟩
  · simp at hk
  · exact ⟨b, o, rfl, hl, hc k hk⟩

section
variable {H : Type} {P : Program}
theorem Light.part {t : TypeId} {fs : Array Field} {ds : List (DataW H)} (h : Light P t (.agg ds)) (ht : P.underlying t = some (.struct fs)) {j : Nat} {f : Field} {d : DataW H} (hf : fs[j]? = some f) (hd : ds[j]? = some d) : Light P f.type d := by
  intro n hn
  refine h n ?_
  simp only [DataW.weights, ht]
  exact DataW.weights_mem_each (j := j) (by rw [List.getElem?_map, Array.getElem?_toList, hf]; rfl) hd n hn
theorem acts_open {enc : TypeId × Value → H} {W : World} {spare : Nat → Bool} {t e ti tb te ts : TypeId} {f0 f1 f2 f3 : Field} {a : Option Addr} {len cap : Nat} {d : DataW H} {p : List MemPlace}
    (hl : Light P t d) (ht : P.underlying t = some (.slice e)) (he : P.underlying e = some (.struct #[f0, f1, f2, f3]))
    (t0 : f0.type = ti) (t1 : f1.type = ti) (t2 : f2.type = tb) (t3 : f3.type = ts) (o0 : f0.offset = 0) (o1 : f1.offset = 1) (o2 : f2.offset = 2) (o3 : f3.offset = 3)
    (hi : P.underlying ti = some (.int .i64)) (hb : P.underlying tb = some (.slice te)) (hte : P.underlying te = some (.int .u8)) (hs : P.underlying ts = some (.slice ti))
    (ci : P.cellsOf ti = 1) (cb : P.cellsOf tb = 1) (cs : P.cellsOf ts = 1) (cte : P.cellsOf te = 1) (ce : P.cellsOf e = 4) (bi : P.bytesOf ti = 8) (be : P.bytesOf te = 1)
    (h : DataW.Trod enc P W 0 spare true t (.slice a len cap) d p) :
    ∃ l : List AAct, l.length = len ∧ Acts W a l ∧ (len ≤ maxLen) ∧ ∀ x ∈ l, x.Ok := by
  obtain ⟨fuel, hf⟩ := h
  have hlt := DataW.trod_lt fuel _ _ _ hf
  rcases DataW.trod_slice ht hf with ⟨hcs, _⟩ | ⟨x, l, c, elems, rest, m, _, hcs, hx, _, hlc, hcm, hel, hget, _⟩
  · simp [Value.cells] at hcs
    obtain ⟨rfl, rfl, rfl⟩ := hcs
    exact ⟨[], rfl, .inl rfl, by simp, by simp⟩
  · simp [Value.cells] at hcs
    obtain ⟨rfl, rfl, rfl⟩ := hcs
    obtain ⟨rfl, rfl⟩ := Prod.mk.inj hx
    -- one act
    have one : ∀ i (hi' : i < elems.length), ∃ y : AAct, y.Ok ∧ (∃ A c A' c', W.cell? ((x.add (i * 4)).add 0) = some (.int .i64 y.kind) ∧ W.cell? ((x.add (i * 4)).add 1) = some (.int .i64 y.idx) ∧ W.cell? ((x.add (i * 4)).add 2) = some (.slice A y.bytes.length c) ∧ W.cell? ((x.add (i * 4)).add 3) = some (.slice A' y.picks.length c') ∧ Bytes W A y.bytes ∧ Ints W A' y.picks) := by
      intro i hi'
      have hg := hget i (by omega)
      rw [List.getElem?_eq_getElem hi', ce] at hg
      obtain ⟨vs, hvs, htr⟩ := Option.bind_eq_some_iff.1 hg
      obtain ⟨_, hvl, hcell⟩ := World.cells?_some hvs
      have hL : Light P e (elems[i]'hi').1 := hl.elem ht (List.mem_map_of_mem (List.getElem_mem hi'))
      obtain ⟨y0, y1, y2, y3, n, hy, _, r0, r1, r2, r3⟩ := Go.Joins.trod_struct4 he htr
      rw [hy] at hL
      match vs, hvl with
      | [v0, v1, v2, v3], _ =>
        rw [t0, o0, ci] at r0
        rw [t1, o1, ci] at r1
        rw [t2, o2, cb] at r2
        rw [t3, o3, cs] at r3
        obtain ⟨z0, e0, _, w0⟩ := DataW.trod_int hi r0
        obtain ⟨z1, e1, _, w1⟩ := DataW.trod_int hi r1
        simp only [List.drop_zero, List.take_succ_cons, List.take_zero, List.drop_succ_cons, List.cons.injEq, and_true] at e0 e1 r2 r3
        subst e0 e1
        have L2 : Light P tb y2.1 := t2 ▸ hL.part he (j := 2) rfl rfl
        have L3 : Light P ts y3.1 := t3 ▸ hL.part he (j := 3) rfl rfl
        obtain ⟨A, k, c, rfl⟩ : ∃ A k c, v2 = .slice A k c := by
          rcases DataW.trod_slice hb r2 with ⟨h0, _⟩ | ⟨_, _, _, _, _, _, _, h1, _⟩
          · simp only [List.cons.injEq, and_true] at h0; exact ⟨_, _, _, h0⟩
          · simp only [List.cons.injEq, and_true] at h1; exact ⟨_, _, _, h1⟩
        obtain ⟨A', k', c', rfl⟩ : ∃ A k c, v3 = .slice A k c := by
          rcases DataW.trod_slice hs r3 with ⟨h0, _⟩ | ⟨_, _, _, _, _, _, _, h1, _⟩
          · simp only [List.cons.injEq, and_true] at h0; exact ⟨_, _, _, h0⟩
          · simp only [List.cons.injEq, and_true] at h1; exact ⟨_, _, _, h1⟩
        obtain ⟨bs, hk, hB, hbl⟩ := bytes_open L2 hb hte cte be ⟨n, r2⟩
        obtain ⟨ps, hk', hI, hpl, hpw⟩ := ints_open L3 hs hi ci bi ⟨n, r3⟩
        subst hk hk'
        exact ⟨⟨z0, z1, bs, ps⟩, ⟨w0, w1, hbl, by show ps.length ≤ _; omega, hpw⟩, A, c, A', c', hcell 0 (by omega), hcell 1 (by omega), hcell 2 (by omega), hcell 3 (by omega), hB, hI⟩
    have hall : ∃ l : List AAct, l.length = elems.length ∧ ∀ i (h1 : i < l.length) (_ : i < elems.length), l[i].Ok ∧ (∃ A c A' c', W.cell? ((x.add (i * 4)).add 0) = some (.int .i64 l[i].kind) ∧ W.cell? ((x.add (i * 4)).add 1) = some (.int .i64 l[i].idx) ∧ W.cell? ((x.add (i * 4)).add 2) = some (.slice A l[i].bytes.length c) ∧ W.cell? ((x.add (i * 4)).add 3) = some (.slice A' l[i].picks.length c') ∧ Bytes W A l[i].bytes ∧ Ints W A' l[i].picks) := by
      refine ⟨List.ofFn fun i : Fin elems.length => Classical.choose (one i.1 i.2), by simp, fun i h1 h2 => ?_⟩
      have := Classical.choose_spec (one i h2)
      simpa using this
    obtain ⟨ls, hls, hk⟩ := hall
    refine ⟨ls, by omega, ?_, by omega, fun y hy => ?_⟩
    · by_cases h0 : elems.length = 0
      · left; exact List.eq_nil_of_length_eq_zero (by omega)
      · right
        obtain ⟨b, off, spot⟩ := x
        have h00 := (hk 0 (by omega) (by omega)).2
        obtain ⟨_, _, _, _, hc0, _⟩ := h00
        have hspot : spot = none := by simpa [Addr.add] using World.cell?_spot hc0
        subst hspot
        refine ⟨b, off, rfl, ?_, fun i hi' => ?_⟩
        · refine hlt (.cell b off) (List.mem_append_left _ (MemPlace.mem_row.2 ⟨0, ?_, by simp⟩))
          rw [ce]; omega
        · obtain ⟨A, c, A', c', g0, g1, g2, g3, g4, g5⟩ := (hk i hi' (by omega)).2
          simp only [add_plain] at g0 g1 g2 g3
          exact ⟨A, c, A', c', g0, g1, g2, g3, g4, g5⟩
    · obtain ⟨i, hi', rfl⟩ := List.mem_iff_getElem.1 hy
      exact (hk i hi' (by omega)).1
end
end Go.Proofs.Ythbdlfkdemjpoaa
