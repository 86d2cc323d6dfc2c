/- What a version laid on a sector makes of the disk in memory. No condition. -/
import Derived.Test.YthbdlfkdemjpoaaS2
import Derived.Test.YthbdlfkdemjpoaaM1
namespace Go.Proofs.Ythbdlfkdemjpoaa
open Go.RowKit Go.Maps

/-- One more version waits. -/
def DS.put (D : DS) (i : Nat) (s : Sec) : DS := { D with waits := fun j => if j = i then D.waits i ++ [s] else D.waits j }
theorem DS.put_ok {D : DS} (h : D.Ok) (i : Nat) (s : Sec) (hi : i < D.lasts.length) (hs : s.length = 64) : (D.put i s).Ok :=
  ⟨h.some, h.most, h.wide, fun j x hx => by
    simp only [DS.put] at hx
    split at hx
    · rcases List.mem_append.1 hx with hx | hx
      · exact h.wide' i x hx
      · rw [List.mem_singleton] at hx; subst hx; exact hs
    · exact h.wide' j x hx, fun j hj => by
    simp only [DS.put] at hj
    split at hj
    · rename_i e; subst e; exact hi
    · exact h.inside j hj, h.fuse⟩

/-- What the map tells of a sector: nil, or a row of its own. -/
theorem DiskMem.slot {w : World} {p bl bm clock : Nat} {S : Nat → Prop} {D : DS} {rs : List (MRow Int)} (h : DiskMem w p S D bl bm clock rs) (i : Nat) :
    ∃ v, (mfind rs (i : Int)).getD (.slice none 0 0) = v ∧ w.ownsRow 0 97 64 v (D.waits i).length (flat (D.waits i)) ∧ (∀ g, v.ownBlock = some g → S g ∧ g ≠ bl ∧ g < w.heap.size ∧ ∃ r ∈ rs, r.k = (i : Int) ∧ r.v = v) := by
  rcases h.keys i with ⟨h0, hf⟩ | ⟨h0, g, cap, hf, ho⟩
  · refine ⟨.slice none 0 0, by rw [hf]; rfl, by rw [h0]; exact World.ownsRow_nil _ _ _ _, fun g hg => by simp [Value.ownBlock] at hg⟩
  · refine ⟨_, by rw [hf]; rfl, ho, fun g' hg => ?_⟩
    obtain ⟨r, hr, hk, hv⟩ := mfind_some hf
    obtain ⟨_, _, _, _, g2, n2, cap2, hv2, hS, hb⟩ := h.rows r hr
    rw [hv] at hv2
    cases hv2
    have : g = g' := by simpa [Value.ownBlock] using hg
    subst this
    exact ⟨hS, hb, (ho.lt g hg).2, r, hr, hk, hv⟩

theorem apart_of {rs : List (MRow Int)} (hn : (rs.map (·.v.ownBlock)).Nodup) {r q : MRow Int} (hr : r ∈ rs) (hq : q ∈ rs) (he : r.v.ownBlock = q.v.ownBlock) : r = q := by
  induction rs with
  | nil => cases hr
  | cons x rs ih =>
    simp only [List.map_cons, List.nodup_cons] at hn
    rcases List.mem_cons.1 hr with h1 | h1
    · rcases List.mem_cons.1 hq with h2 | h2
      · rw [h1, h2]
      · exact absurd (List.mem_map.2 ⟨q, h2, by rw [← h1, he]⟩) hn.1
    · rcases List.mem_cons.1 hq with h2 | h2
      · exact absurd (List.mem_map.2 ⟨r, h1, by rw [← h2, he]⟩) hn.1
      · exact ih hn.2 h1 h2

theorem DiskMem.put {W w2 : World} {p bl bm clock : Nat} {S : Nat → Prop} {D : DS} {rs : List (MRow Int)} (h : DiskMem W p S D bl bm clock rs) (hok : D.Ok) (i : Nat) (hi : i < D.lasts.length) (s : Sec) {v : Value} {g cap : Nat}
    (hv : (mfind rs (i : Int)).getD (.slice none 0 0) = v) (hg : W.grownBy w2 v.ownBlock)
    (how : w2.ownsRow 0 97 64 (.slice (some ⟨g, 0, none⟩) ((D.waits i).length + 1) cap) ((D.waits i).length + 1) (flat (D.waits i) ++ secV s)) (hat : v.ownBlock = some g ∨ g = W.heap.size) :
    DiskMem (setObj w2 bm (.map ((mput rs (i : Int) (.slice (some ⟨g, 0, none⟩) ((D.waits i).length + 1) cap) clock).map (MRow.e (Value.int .i64))).toArray (mclock rs (i : Int) clock))) p (fun k => S k ∨ W.heap.size ≤ k) (D.put i s) bl bm
      (mclock rs (i : Int) clock) (mput rs (i : Int) (.slice (some ⟨g, 0, none⟩) ((D.waits i).length + 1) cap) clock) := by
  obtain ⟨v', hv', ho, hsl⟩ := h.slot i
  rw [hv] at hv'
  subst hv'
  have hbm : bm < w2.heap.size := Nat.lt_of_lt_of_le (lt_of h.map) hg.size
  have hpm : p ≠ bm := fun e => by have a := h.own; rw [e, h.map] at a; cases a
  have hlm : bl ≠ bm := fun e => by have a := h.lasts; rw [e, h.map] at a; cases a
  have far : ∀ k, k < W.heap.size → some k ≠ v.ownBlock → k ≠ bm → (setObj w2 bm (.map ((mput rs (i : Int) (.slice (some ⟨g, 0, none⟩) ((D.waits i).length + 1) cap) clock).map (MRow.e (Value.int .i64))).toArray (mclock rs (i : Int) clock))).heap[k]? = W.heap[k]? := by
    intro k hk hne hkb
    rw [heap_setObj_ne _ _ _ _ hkb]
    exact hg.block k hk hne
  have nep : some p ≠ v.ownBlock := fun e => by
    rcases ho.2 with ⟨rfl, _⟩ | ⟨g', cap', cur, rfl, _, h2, _⟩
    · simp [Value.ownBlock] at e
    · have : p = g' := by simpa [Value.ownBlock] using e
      subst this
      rw [h.own] at h2
      injection h2 with a; injection a with _ a; exact absurd a (by decide)
  have nel : some bl ≠ v.ownBlock := fun e => (hsl bl e.symm).2.1 rfl
  have hgbm : g ≠ bm := fun e => by
    rcases hat with hat | hat
    · rcases ho.2 with ⟨rfl, _⟩ | ⟨g', cap', cur, rfl, _, h2, _⟩
      · simp [Value.ownBlock] at hat
      · have : g' = g := by simpa [Value.ownBlock] using hat
        subst this
        rw [e, h.map] at h2
        cases h2
    · have := lt_of h.map; omega
  refine ⟨(far p (lt_of h.own) nep hpm).trans ?_, (far bl (lt_of h.lasts) nel hlm).trans ?_, heap_setObj _ _ _ hbm, fun j => ?_, fun r hr => ?_, nodup_mput _ _ _ h.nodup, ?_, born_mput _ _ _ h.born h.since, since_mput h.since, ?_, .inl h.sp, .inl h.sl, .inl h.sm⟩
  · exact h.own
  · exact h.lasts
  · rw [mfind_mput]
    by_cases hj : j = i
    · subst hj
      right
      refine ⟨by simp [DS.put], g, cap, by simp [DS.put], ?_⟩
      have e1 : (D.put j s).waits j = D.waits j ++ [s] := by simp [DS.put]
      rw [e1, List.length_append, List.length_singleton, flat_append, show flat [s] = secV s by simp [flat]]
      refine ⟨how.1, ?_⟩
      rcases how.2 with ⟨h1, _⟩ | ⟨g', cap', cur, h1, h2, h3, h4⟩
      · cases h1
      · cases h1
        exact .inr ⟨g, cap, cur, rfl, h2, by rw [heap_setObj_ne _ _ _ _ hgbm]; exact h3, h4⟩
    · have hj' : ¬ (j : Int) = (i : Int) := by omega
      rw [if_neg hj']
      have e1 : (D.put i s).waits j = D.waits j := by simp [DS.put, hj]
      rw [e1]
      rcases h.keys j with hk | ⟨h0, g2, cap2, hf, ho2⟩
      · exact .inl hk
      · refine .inr ⟨h0, g2, cap2, hf, ho2.1, ?_⟩
        rcases ho2.2 with ⟨h1, _⟩ | ⟨g', cap', cur, h1, h2, h3, h4⟩
        · cases h1
        · cases h1
          obtain ⟨r, hr, hk, hrv⟩ := mfind_some hf
          refine .inr ⟨g2, cap2, cur, rfl, h2, ?_, h4⟩
          rw [far g2 (lt_of h3) (fun e => ?_) (fun e => by rw [e, h.map] at h3; cases h3)]
          · exact h3
          · obtain ⟨_, _, _, r2, hr2, hk2, hv2⟩ := hsl g2 e.symm
            have := apart_of h.apart hr hr2 (by rw [hrv, hv2, ← e]; rfl)
            rw [this, hk2] at hk
            exact hj' hk.symm
  · rcases mem_mput hr with ⟨hr, hk⟩ | ⟨hk, hrv, _⟩
    · obtain ⟨j, a, b, c, g2, n2, cap2, d, e, f⟩ := h.rows r hr
      have hji : j ≠ i := fun e => hk (by rw [a, e])
      exact ⟨j, a, b, by simpa [DS.put, hji] using c, g2, n2, cap2, d, .inl e, f⟩
    · refine ⟨i, hk, hi, by simp [DS.put], g, _, cap, hrv, ?_, ?_⟩
      · rcases hat with hat | hat
        · exact .inl (hsl g hat).1
        · exact .inr (by omega)
      · rcases hat with hat | hat
        · exact (hsl g hat).2.1
        · have := lt_of h.lasts; omega
  · -- each row has a block of its own
    unfold mput
    have hlt : ∀ r ∈ rs, ∀ k, r.v.ownBlock = some k → k < W.heap.size := by
      intro r hr k hk
      obtain ⟨j, a, b, c, g2, n2, cap2, d, e, f⟩ := h.rows r hr
      rcases h.keys j with ⟨h0, _⟩ | ⟨h0, g3, cap3, hf, ho3⟩
      · exact absurd h0 c
      · have := mfind_of_mem h.nodup hr
        rw [a, hf] at this
        injection this with this
        rw [← this] at hk
        exact (ho3.lt k hk).2
    split
    · rename_i hany
      have hmem := any_mem.1 hany
      obtain ⟨r0, hr0, hk0⟩ := List.mem_map.1 hmem
      have hv0 : r0.v = v := by
        have := mfind_of_mem h.nodup hr0
        rw [show r0.k = (i : Int) from hk0] at this
        rw [this] at hv
        exact hv
      rw [List.map_map]
      have key : ∀ l : List (MRow Int), (∀ r ∈ l, r ∈ rs) → (l.map (·.v.ownBlock)).Nodup → (l.map (·.k)).Nodup → (l.map ((fun r : MRow Int => r.v.ownBlock) ∘ fun r => if r.k = (i : Int) then { r with v := .slice (some ⟨g, 0, none⟩) ((D.waits i).length + 1) cap } else r)).Nodup := by
        intro l
        induction l with
        | nil => simp
        | cons x l ih =>
          intro hl hn hkn
          simp only [List.map_cons, List.nodup_cons] at hn hkn ⊢
          refine ⟨?_, ih (fun r hr => hl r (by simp [hr])) hn.2 hkn.2⟩
          intro hm
          obtain ⟨y, hy, he⟩ := List.mem_map.1 hm
          simp only [Function.comp] at he
          have hxr := hl x (by simp)
          have hyr := hl y (by simp [hy])
          have hxy : x.k ≠ y.k := fun e => hkn.1 (e ▸ List.mem_map_of_mem hy)
          by_cases hx : x.k = (i : Int)
          · have hy' : ¬ y.k = (i : Int) := fun e => hxy (hx.trans e.symm)
            rw [if_pos hx, if_neg hy'] at he
            have hyg : y.v.ownBlock = some g := by rw [he]; rfl
            rcases hat with hat | hat
            · have := apart_of h.apart hyr hr0 (by rw [hyg, hv0, hat])
              rw [this] at hy'
              exact hy' hk0
            · have := hlt y hyr g hyg; omega
          · rw [if_neg hx] at he
            by_cases hy' : y.k = (i : Int)
            · rw [if_pos hy'] at he
              have hxg : x.v.ownBlock = some g := by rw [← he]; rfl
              rcases hat with hat | hat
              · have := apart_of h.apart hxr hr0 (by rw [hxg, hv0, hat])
                rw [this] at hx
                exact hx hk0
              · have := hlt x hxr g hxg; omega
            · rw [if_neg hy'] at he
              exact hn.1 (he ▸ List.mem_map_of_mem hy)
      exact key rs (fun _ h => h) h.apart h.nodup
    · rename_i hany
      rw [List.map_append, List.map_singleton]
      refine nodup_snoc h.apart (fun hm => ?_)
      obtain ⟨r, hr, he⟩ := List.mem_map.1 hm
      have hrg : r.v.ownBlock = some g := by rw [he]; rfl
      rcases hat with hat | hat
      · obtain ⟨_, _, _, r2, hr2, hk2, _⟩ := hsl g hat
        exact hany (any_mem.2 (hk2 ▸ List.mem_map_of_mem hr2))
      · have := hlt r hr g hrg; omega
  · -- few rows
    have hk := nodup_mput (i : Int) (.slice (some ⟨g, 0, none⟩) ((D.waits i).length + 1) cap) clock h.nodup
    have hin : ∀ r ∈ mput rs (i : Int) (.slice (some ⟨g, 0, none⟩) ((D.waits i).length + 1) cap) clock, ∃ j : Nat, r.k = j ∧ j < D.lasts.length := by
      intro r hr
      rcases mem_mput hr with ⟨hr, _⟩ | ⟨hk, _⟩
      · obtain ⟨j, a, b, _⟩ := h.rows r hr
        exact ⟨j, a, b⟩
      · exact ⟨i, hk, hi⟩
    have hp := pigeon D.lasts.length ((mput rs (i : Int) (.slice (some ⟨g, 0, none⟩) ((D.waits i).length + 1) cap) clock).map (fun r => r.k.toNat)) (by
      have : (mput rs (i : Int) (.slice (some ⟨g, 0, none⟩) ((D.waits i).length + 1) cap) clock).map (fun r => r.k.toNat) = ((mput rs (i : Int) (.slice (some ⟨g, 0, none⟩) ((D.waits i).length + 1) cap) clock).map (·.k)).map Int.toNat := by rw [List.map_map]; rfl
      rw [this]
      refine List.pairwise_map.2 (List.Pairwise.imp_of_mem (fun {a b} ha hb hab he => hab ?_) hk)
      obtain ⟨ra, hra, rfl⟩ := List.mem_map.1 ha
      obtain ⟨rb, hrb, rfl⟩ := List.mem_map.1 hb
      obtain ⟨ja, e1, _⟩ := hin ra hra
      obtain ⟨jb, e2, _⟩ := hin rb hrb
      rw [e1, e2] at he ⊢
      exact congrArg Nat.cast (by simpa using he)) (fun x hx => by
      obtain ⟨r, hr, rfl⟩ := List.mem_map.1 hx
      obtain ⟨j, e1, e2⟩ := hin r hr
      rw [e1]; simpa using e2)
    rw [List.length_map] at hp
    exact Nat.le_trans hp hok.most
end Go.Proofs.Ythbdlfkdemjpoaa
