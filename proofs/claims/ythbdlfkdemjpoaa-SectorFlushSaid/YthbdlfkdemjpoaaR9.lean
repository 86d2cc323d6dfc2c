/- One act of a script, done to both disks: they stay the same. No condition. -/
import Derived.Test.YthbdlfkdemjpoaaR8
import Derived.Test.YthbdlfkdemjpoaaL2
import Derived.BigQuiet
namespace Go.Proofs.Ythbdlfkdemjpoaa
open Go.RowKit Go.Maps
attribute [local go_sem ↓] Go.wp_at_zero Go.wp_at_succ

/-- The two disks, apart in memory, and the same. -/
structure Two (B : Nat) (w : World) (p : Nat) (S : Nat → Prop) (q : Nat) (T : Nat → Prop) (D : DS) : Prop where
  d : Dk B w p S D
  x : Rk B w q T D
  apart : ∀ k, S k → ¬ T k
theorem Two.fix {B : Nat} {w w' : World} {p q : Nat} {S T : Nat → Prop} {D : DS} (h : Two B w p S q T D) (hs : w.heap.size ≤ w'.heap.size) (hm : ∀ k, B ≤ k → k < w.heap.size → w'.heap[k]? = w.heap[k]?) : Two B w' p S q T D :=
  ⟨h.d.fix hs fun k hk hl => hm k (h.d.base k hk).1 hl, h.x.fix hs fun k hk hl => hm k (h.x.base k hk).1 hl, h.apart⟩
theorem Two.below {B : Nat} {w w' : World} {p q : Nat} {S T : Nat → Prop} {D : DS} (h : Two B w p S q T D) (hb : Below w.heap.size w w') : Two B w' p S q T D := h.fix hb.size fun k _ hl => hb.block k hl
theorem Two.alloc {B : Nat} {w : World} {p q : Nat} {S T : Nat → Prop} {D : DS} (h : Two B w p S q T D) (o : Obj) : Two B (w.alloc o) p S q T D := h.below ((Below.refl _ _).alloc (Nat.le_refl _) _)
theorem Two.left {B : Nat} {w w' : World} {p q : Nat} {S S' T : Nat → Prop} {D : DS} (h : Two B w p S q T D) (hk : Kept S w w') (hS : ∀ k, S' k → S k ∨ w.heap.size ≤ k) : Rk B w' q T D ∧ (∀ k, S' k → ¬ T k) :=
  ⟨h.x.kept hk fun k hT hS' => h.apart k hS' hT, fun k hk' hT => (hS k hk').elim (fun h1 => h.apart k h1 hT) (fun h1 => by have := (h.x.base k hT).2; omega)⟩
theorem Two.right {B : Nat} {w w' : World} {p q : Nat} {S T T' : Nat → Prop} {D' : DS} (hd : Dk B w p S D') (hap : ∀ k, S k → ¬ T k) (hx : Rk B w' q T' D') (hk : Kept T w w') (hT : ∀ k, T' k → T k ∨ w.heap.size ≤ k) : Two B w' p S q T' D' :=
  ⟨hd.kept hk hap, hx, fun k hS hT' => (hT k hT').elim (fun h1 => hap k hS h1) (fun h1 => by have := (hd.base k hS).2; omega)⟩
/-- What an act does to a disk. -/
def DS.actA (D : DS) (x : AAct) : DS := if x.kind = 1 then D.writeA x.idx x.bytes else if x.kind = 2 then D.flushA else if x.kind = 3 then D.fused x.idx else if x.kind = 4 then D.crash x.picks else D
/-- An act was done to both. -/
def Acted (B p q : Nat) (w : World) (D' : DS) (e : Ending) (w' : World) : Prop := ∃ S' T', e = .returned (.bool true) ∧ Two B w' p S' q T' D' ∧ Below B w w'
theorem heap_far {A B : World} {S : Nat → Prop} (hk : Kept S A B) {g : Nat} {o : Obj} (h : A.heap[g]? = some o) (hS : ¬ S g) : B.heap[g]? = some o := (hk.block g (lt_of h) hS).trans h
theorem Bytes.keptAt {w w' : World} {A : Option Addr} {l : List UInt8} {S : Nat → Prop} (h : Bytes w A l) (hk : Kept S w w') (hA : l ≠ [] → ∀ b o, A = some ⟨b, o, none⟩ → ¬ S b) : Bytes w' A l := h.fixN hk.size fun hn b o e hl => hk.block b hl (hA hn b o e)

theorem Two.wrote {B : Nat} {w V w1 w2 : World} {p q : Nat} {S S1 T T2 : Nat → Prop} {D D' : DS} (h : Two B w p S q T D) (hV : Below w.heap.size w V) (hd : Dk B w1 p S1 D') (hk : Kept S V w1) (hS : ∀ k, S1 k → S k ∨ V.heap.size ≤ k) (hx : Rk B w2 q T2 D') (hk2 : Kept T w1 w2) (hT : ∀ k, T2 k → T k ∨ w1.heap.size ≤ k) (e : Ending) (he : e = .returned (.bool true)) : Acted B p q w D' e w2 := by
  have h0 := h.below hV
  obtain ⟨_, hap⟩ := h0.left hk hS
  exact ⟨S1, T2, he, Two.right hd hap hx hk2 hT, ((hV.mono h.d.low).trans (h0.d.keptBelow hk)).trans (hk2.below (Nat.le_trans h0.d.low hk.size) fun k hk' => (h0.x.base k hk').1)⟩

set_option maxRecDepth 100000 in
set_option maxHeartbeats 4000000 in
theorem act2_write {B : Nat} (p : Nat) (S : Nat → Prop) (q : Nat) (T : Nat → Prop) (D : DS) (i : Int) (A1 A2 : Option Addr) (l : List UInt8) (n2 c1 c2 : Nat) (w : World) (h : Two B w p S q T D) (hb : Bytes w A1 l) (hlo : l ≠ [] → ∀ b o, A1 = some ⟨b, o, none⟩ → b < B) (hroom : ∀ i, (D.waits i).length ≤ 1000000) :
    Calls Try.prog 38 #[.pointer (some ⟨p, 0, none⟩), .pointer (some ⟨q, 0, none⟩), .agg #[.int .i64 1, .int .i64 i, .slice A1 l.length c1, .slice A2 n2 c2]] w (Acted B p q w (D.writeA i l)) := by
  have H := Lib.hid h; have HRM := Lib.hid hroom
  have HLS : Hid (l ≠ [] → ∀ b o, A1 = some ⟨b, o, none⟩ → ¬ S b) := Lib.hid fun hn b o e hS => by have := (h.d.base b hS).1; have := hlo hn b o e; omega
  have HLT : Hid (l ≠ [] → ∀ b o, A1 = some ⟨b, o, none⟩ → ¬ T b) := Lib.hid fun hn b o e hS => by have := (h.x.base b hS).1; have := hlo hn b o e; omega
  obtain ⟨V, hV⟩ : ∃ V, V = w.alloc (.cells #[.int .i64 1, .int .i64 i, .slice A1 l.length c1, .slice A2 n2 c2] 64) := ⟨_, rfl⟩
  have HVB : Hid (V.drew.heap[w.heap.size]? = some (.cells #[.int .i64 1, .int .i64 i, .slice A1 l.length c1, .slice A2 n2 c2] 64)) := Lib.hid (by rw [hV]; exact heap_alloc_new w _)
  have HVW : Hid (Below w.heap.size w V.drew) := Lib.hid (by rw [hV]; exact (below_alloc1 w _).drew)
  have HT := Lib.hid (h.below HVW.out)
  have HB := Lib.hid (hb.below HVW.out)
  have HnS : Hid (¬ S w.heap.size) := Lib.hid fun hs => by have := (h.d.base _ hs).2; omega
  have HnT : Hid (¬ T w.heap.size) := Lib.hid fun hs => by have := (h.x.base _ hs).2; omega
  obtain ⟨G, hG⟩ : ∃ G, G = w.heap.size := ⟨_, rfl⟩
  have HKB : Hid (∀ W : World, W.heap[G]? = some (.cells #[.int .i64 1, .int .i64 i, .slice A1 l.length c1, .slice A2 n2 c2] 64) → W.cell? ⟨G, 1, none⟩ = some (.int .i64 i) ∧ W.cell? ⟨G, 2, none⟩ = some (.slice A1 l.length c1)) := Lib.hid fun W hW => ⟨by rw [cell_of hW]; rfl, by rw [cell_of hW]; rfl⟩
  clear h hb hlo hroom
  go_enter Try.func38, Try.ntmps38
  go_wp2_with fail
  rw [← hG] at HVB HnS HnT
  rw [← hG, ← hV]
  clear hG hV
  go_region_held3 (fun w' => w'.cell? ⟨G, 1, none⟩ = some (.int .i64 i) ∧ w'.cell? ⟨G, 2, none⟩ = some (.slice A1 l.length c1))
    (first | exact HKB.out _ HVB.out | exact HKB.out _ (heap_far HK1.out HVB.out HnS.out) | exact HKB.out _ (heap_far HK2.out (heap_far HK1.out HVB.out HnS.out) HnT.out))
    (first
      | (go_at_call 23; refine (dk_writeA p S D i A1 l c1 _ HT.out.d HB.out HRM.out).mono ?_; rintro e w1 ⟨S1, rfl, hd1, hk1, hS1⟩; have HD1 := Lib.hid hd1; have HK1 := Lib.hid hk1; have HS1 := Lib.hid hS1; clear hd1 hk1 hS1)
      | (go_at_call 24; refine (rk_writeA q T D i A1 l c1 _ (HT.out.left HK1.out HS1.out).1 (HB.out.keptAt HK1.out HLS.out) HLT.out HRM.out).mono ?_; rintro e w2 ⟨T2, rfl, hx2, hk2, hT2⟩; have HX2 := Lib.hid hx2; have HK2 := Lib.hid hk2; have HT2 := Lib.hid hT2; clear hx2 hk2 hT2))
  go_wp2_with fail
  go_ret
  exact H.out.wrote HVW.out HD1.out HK1.out HS1.out HX2.out HK2.out HT2.out _ (by simp)
theorem Two.same {B : Nat} {w V : World} {p q : Nat} {S T : Nat → Prop} {D : DS} (h : Two B w p S q T D) (hV : Below w.heap.size w V) (e : Ending) (he : e = .returned (.bool true)) : Acted B p q w D e V :=
  ⟨S, T, he, h.below hV, hV.mono h.d.low⟩
theorem alloc_below_of {B : Nat} {a b : World} (o : Obj) (h : Below B a b) (hB : B ≤ a.heap.size) : Below B a (b.alloc o) := h.alloc (Nat.le_trans hB h.size) o

set_option maxRecDepth 100000 in
set_option maxHeartbeats 2000000 in
theorem act2_flush {B : Nat} (p : Nat) (S : Nat → Prop) (q : Nat) (T : Nat → Prop) (D : DS) (i : Int) (A1 A2 : Option Addr) (n1 n2 c1 c2 : Nat) (w : World) (h : Two B w p S q T D) (hroom : ∀ i, (D.waits i).length ≤ 1000000) :
    Calls Try.prog 38 #[.pointer (some ⟨p, 0, none⟩), .pointer (some ⟨q, 0, none⟩), .agg #[.int .i64 2, .int .i64 i, .slice A1 n1 c1, .slice A2 n2 c2]] w (Acted B p q w D.flushA) := by
  have H := Lib.hid h; have HRM := Lib.hid hroom
  have HVW : Hid (∀ o, Below w.heap.size w (w.alloc o)) := Lib.hid fun o => below_alloc1 w o
  clear h hroom
  go_enter Try.func38, Try.ntmps38
  go_wp2_with fail
  refine (dk_flushA p S D _ (H.out.d.alloc _) HRM.out).mono ?_
  rintro e w1 ⟨rfl, hd1, hk1⟩
  have HD1 := Lib.hid hd1; have HK1 := Lib.hid hk1
  clear hd1 hk1
  go_wp2_with fail
  refine (rk_flushA q T D _ ((H.out.alloc _).left HK1.out (fun k hk => .inl hk)).1 HRM.out).mono ?_
  rintro e w2 ⟨rfl, hd2, hk2⟩
  have HX2 := Lib.hid hd2; have HK2 := Lib.hid hk2
  clear hd2 hk2
  go_wp2_with fail
  go_ret
  exact H.out.wrote (HVW.out _) HD1.out HK1.out (fun k hk => .inl hk) HX2.out HK2.out (fun k hk => .inl hk) _ (by simp)
set_option maxRecDepth 100000 in
set_option maxHeartbeats 2000000 in
theorem act2_fuse {B : Nat} (p : Nat) (S : Nat → Prop) (q : Nat) (T : Nat → Prop) (D : DS) (i : Int) (A1 A2 : Option Addr) (n1 n2 c1 c2 : Nat) (w : World) (h : Two B w p S q T D) (hi : i ≤ 9223372036854775807) :
    Calls Try.prog 38 #[.pointer (some ⟨p, 0, none⟩), .pointer (some ⟨q, 0, none⟩), .agg #[.int .i64 3, .int .i64 i, .slice A1 n1 c1, .slice A2 n2 c2]] w (Acted B p q w (D.fused i)) := by
  have H := Lib.hid h; have HI := Lib.hid hi
  have HVW : Hid (∀ o, Below w.heap.size w (w.alloc o)) := Lib.hid fun o => below_alloc1 w o
  have HnS : Hid (¬ S w.heap.size) := Lib.hid fun hs => by have := (h.d.base _ hs).2; omega
  have HnT : Hid (¬ T w.heap.size) := Lib.hid fun hs => by have := (h.x.base _ hs).2; omega
  clear h hi
  go_enter Try.func38, Try.ntmps38
  go_wp2_with fail
  refine (dk_fuse p S D i _ (H.out.d.alloc _) HI.out).mono ?_
  rintro e w1 ⟨rfl, hd1, hk1⟩
  have c1 := cell_of (heap_far hk1 (heap_alloc_new w _) HnS.out) 1
  simp only [List.getElem?_toArray, List.getElem?_cons_succ, List.getElem?_cons_zero] at c1
  have HD1 : Hid (Dk B w1 p S (D.fused i)) := Lib.hid hd1; have HK1 := Lib.hid hk1
  clear hd1 hk1
  go_wp2_with fail
  refine (rfuse_any q T D i _ ((H.out.alloc _).left HK1.out (fun k hk => .inl hk)).1 HI.out).mono ?_
  rintro e w2 ⟨rfl, hd2, hk2⟩
  have HX2 := Lib.hid hd2; have HK2 := Lib.hid hk2
  clear hd2 hk2
  go_wp2_with fail
  go_ret
  exact H.out.wrote (HVW.out _) HD1.out HK1.out (fun k hk => .inl hk) HX2.out HK2.out (fun k hk => .inl hk) _ rfl
set_option maxRecDepth 100000 in
set_option maxHeartbeats 2000000 in
theorem act2_crash {B : Nat} (p : Nat) (S : Nat → Prop) (q : Nat) (T : Nat → Prop) (D : DS) (i : Int) (A1 A2 : Option Addr) (picks : List Int) (n1 c1 c2 : Nat) (w : World) (h : Two B w p S q T D) (hA : Ints w A2 picks) (hlo : picks ≠ [] → ∀ b o, A2 = some ⟨b, o, none⟩ → b < B) (hlen : picks.length ≤ 140737488351232) (hroom : ∀ i, (D.waits i).length ≤ 1000000) :
    Calls Try.prog 38 #[.pointer (some ⟨p, 0, none⟩), .pointer (some ⟨q, 0, none⟩), .agg #[.int .i64 4, .int .i64 i, .slice A1 n1 c1, .slice A2 picks.length c2]] w (Acted B p q w (D.crash picks)) := by
  have H := Lib.hid h; have HRM := Lib.hid hroom; have HL := Lib.hid hlen
  have HVW : Hid (∀ o, Below w.heap.size w (w.alloc o)) := Lib.hid fun o => below_alloc1 w o
  have HnS : Hid (¬ S w.heap.size) := Lib.hid fun hs => by have := (h.d.base _ hs).2; omega
  have HLS : Hid (picks ≠ [] → ∀ b o, A2 = some ⟨b, o, none⟩ → ¬ S b) := Lib.hid fun hn b o e hS => by have := (h.d.base b hS).1; have := hlo hn b o e; omega
  have HLT : Hid (picks ≠ [] → ∀ b o, A2 = some ⟨b, o, none⟩ → ¬ T b) := Lib.hid fun hn b o e hS => by have := (h.x.base b hS).1; have := hlo hn b o e; omega
  have HA : Hid (∀ o, Ints (w.alloc o) A2 picks) := Lib.hid fun o => hA.below (below_alloc1 w o)
  clear h hroom hlen hlo hA
  go_enter Try.func38, Try.ntmps38
  go_wp2_with fail
  refine (dk_crashN p S D A2 picks c2 _ (H.out.d.alloc _) (HA.out _) HLS.out HRM.out).mono ?_
  rintro e w1 ⟨rfl, hd1, hk1⟩
  have c1 := cell_of (heap_far hk1 (heap_alloc_new w _) HnS.out) 3
  simp only [List.getElem?_toArray, List.getElem?_cons_succ, List.getElem?_cons_zero] at c1
  have HD1 := Lib.hid hd1; have HK1 := Lib.hid hk1
  clear hd1 hk1
  go_wp2_with fail
  refine (rcrash_any q T D A2 picks c2 _ ((H.out.alloc _).left HK1.out (fun k hk => .inl hk)).1 ((HA.out _).fixN HK1.out.size fun hn b o e hl => HK1.out.block b hl (HLS.out hn b o e)) HLT.out HRM.out HL.out).mono ?_
  rintro e w2 ⟨T2, rfl, hd2, hk2, hT2⟩
  have HX2 := Lib.hid hd2; have HK2 := Lib.hid hk2; have HT2 := Lib.hid hT2
  clear hd2 hk2 hT2
  go_wp2_with fail
  go_ret
  exact H.out.wrote (HVW.out _) HD1.out HK1.out (fun k hk => .inl hk) HX2.out HK2.out HT2.out _ rfl
theorem bytes_sec {w : World} {g : Nat} {s : Sec} {t : TypeId} (h : w.heap[g]? = some (.cells (secV s).toArray t (0, 0))) : Bytes w (some ⟨g, 0, none⟩) s := by
  refine .inr ⟨g, 0, rfl, lt_of h, fun j v hv => ?_⟩
  rw [Nat.zero_add, cell_of h, List.getElem?_toArray]
  exact hv
theorem conv_sec (W : World) (g c : Nat) (s : Sec) (hs : s.length = 64) (h : Bytes W (some ⟨g, 0, none⟩) s) : (convert 22 9 (.slice (some ⟨g, 0, none⟩) 64 c)).run Try.prog W = .ok (.string ⟨s.toArray⟩) W := by
  have := conv_text W _ s c h
  rwa [hs] at this
theorem conv_nil (W : World) : (convert 22 9 (.slice none 0 0)).run Try.prog W = .ok (.string ⟨#[]⟩) W := conv_text W none [] 0 (.inl rfl)
set_option maxRecDepth 100000 in
set_option maxHeartbeats 2000000 in
theorem act2_read_out {B : Nat} (p : Nat) (S : Nat → Prop) (q : Nat) (T : Nat → Prop) (D : DS) (i : Int) (A1 A2 : Option Addr) (n1 n2 c1 c2 : Nat) (w : World) (h : Two B w p S q T D) (hi : i < 0 ∨ (D.lasts.length : Int) ≤ i) :
    Calls Try.prog 38 #[.pointer (some ⟨p, 0, none⟩), .pointer (some ⟨q, 0, none⟩), .agg #[.int .i64 5, .int .i64 i, .slice A1 n1 c1, .slice A2 n2 c2]] w (Acted B p q w D) := by
  have H := Lib.hid h; have HI := Lib.hid hi
  have HVW : Hid (∀ o, Below w.heap.size w (w.alloc o)) := Lib.hid fun o => below_alloc1 w o
  have cv := conv_nil
  clear h hi
  go_enter Try.func38, Try.ntmps38
  go_wp2_with fail
  refine (read_out p S D i _ (H.out.d.alloc _).at_ HI.out).mono ?_
  rintro e w1 ⟨rfl, rfl⟩
  go_wp2_with fail
  refine (rread_out q T D i _ (H.out.x.alloc _) HI.out).mono ?_
  rintro e w2 ⟨rfl, rfl⟩
  go_wp2_with fail
  go_ret
  exact H.out.same (HVW.out _) _ (by simp)
set_option maxRecDepth 100000 in
set_option maxHeartbeats 2000000 in
theorem act2_read_in {B : Nat} (p : Nat) (S : Nat → Prop) (q : Nat) (T : Nat → Prop) (D : DS) (i : Nat) (A1 A2 : Option Addr) (n1 n2 c1 c2 : Nat) (w : World) (h : Two B w p S q T D) (hi : i < D.lasts.length) (hroom : (D.waits i).length ≤ 1000000) :
    Calls Try.prog 38 #[.pointer (some ⟨p, 0, none⟩), .pointer (some ⟨q, 0, none⟩), .agg #[.int .i64 5, .int .i64 i, .slice A1 n1 c1, .slice A2 n2 c2]] w (Acted B p q w D) := by
  have H := Lib.hid h; have HI := Lib.hid hi; have HRM := Lib.hid hroom
  have HL := Lib.hid (DS.read_length h.d.ok i hi)
  obtain ⟨s, hs⟩ : ∃ s, s = D.read i := ⟨_, rfl⟩
  have HS := Lib.hid hs
  clear h hi hroom hs
  go_enter Try.func38, Try.ntmps38
  go_wp2_with fail
  refine (read_in p S D i _ (H.out.d.alloc _).at_ HI.out).mono ?_
  rintro e w1 ⟨rfl, rfl⟩
  rw [← HS.out]
  go_wp2_with fail
  refine (rread_in q T D i _ ((H.out.x.alloc _).alloc _) HI.out HRM.out).mono ?_
  rintro e w2 ⟨c, rfl, hb, hbl⟩
  have hl : s.length = 64 := by rw [HS.out]; exact HL.out
  rw [← HS.out] at hb
  have k1 := conv_sec w2 (w.heap.size + 1) 64 s hl ((bytes_sec (by rw [show w.heap.size + 1 = (w.alloc (.cells #[.int .i64 5, .int .i64 i, .slice A1 n1 c1, .slice A2 n2 c2] 64)).heap.size by simp]; exact heap_alloc_new _ _)).below hbl)
  have k2 := conv_sec w2 (w.heap.size + 1 + 1) c s hl (by simpa using hb)
  have HB := Lib.hid hbl
  clear hb hbl hl
  go_wp2_with fail
  go_ret
  exact H.out.same ((alloc_below_of _ (below_alloc1 w _) (Nat.le_refl _)).trans (HB.out.mono (by simp; omega))) _ (by simp)
end Go.Proofs.Ythbdlfkdemjpoaa
