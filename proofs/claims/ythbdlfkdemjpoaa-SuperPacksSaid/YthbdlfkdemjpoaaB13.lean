/- A Super on a disk without a fuse, in memory; the laws' known of chapter 3. No condition. -/
import Derived.Test.YthbdlfkdemjpoaaB12
import Derived.Lib.SlBytesConst
namespace Go.Proofs.Ythbdlfkdemjpoaa
open Go.RowKit Go.Maps

/-- A Super q on a disk p without a fuse. -/
structure Stand (B : Nat) (w : World) (p q : Nat) (S : Nat → Prop) (D : DS) (X : SS) (O : List Row) (A : Option Addr) (c : Nat) : Prop where
  disk : Dk B w p S D
  mem : SMem w q p S X A c
  off : ¬ S q
  base : B ≤ q
  holds : D.Holds X O
theorem Stand.below {B : Nat} {w w' : World} {p q : Nat} {S : Nat → Prop} {D : DS} {X : SS} {O : List Row} {A : Option Addr} {c : Nat} (h : Stand B w p q S D X O A c) (hb : Below w.heap.size w w') : Stand B w' p q S D X O A c :=
  ⟨h.disk.below hb, h.mem.below hb, h.off, h.base, h.holds⟩
def Stood (B p : Nat) (w : World) (X : SS) (O : List Row) (e : Ending) (w' : World) : Prop :=
  ∃ q S D A c, e = .returned (.tuple #[.pointer (some ⟨q, 0, none⟩), .int .i64 0]) ∧ Stand B w' p q S D X O A c ∧ Below B w w'
theorem format_stand {B : Nat} (p : Nat) (S : Nat → Prop) (D : DS) (A1 : Option Addr) (c1 : Nat) (img : Row) (w : World) (h : Dk B w p S D) (hf : D.fuse < 0) (hd : ∀ i, D.waits i = []) (hw : 32 ≤ D.lasts.length) (hi : Bytes w A1 img) (hfar : img ≠ [] → ∀ b o, A1 = some ⟨b, o, none⟩ → ¬ S b) (hl : img.length ≤ 814) :
    Calls Try.prog 29 #[.pointer (some ⟨p, 0, none⟩), .slice A1 img.length c1] w (Stood B p w ⟨1, img, 0, 1, false⟩ zeroSlot) := by
  refine (format_any p S D A1 c1 img w h hi hfar (by omega) (fun i => by rw [hd i]; simp)).mono ?_
  obtain ⟨h1, h2⟩ := DS.format_free hf hw hl
  rintro e w' ⟨S', a1, a2, a3, a4⟩
  rcases a4 with ⟨a4, _⟩ | ⟨_, q, A, c, a4, a5, a6, a7⟩
  · exact absurd h1 a4
  · exact ⟨q, S', _, A, c, a4, ⟨a1, a7, a6, Nat.le_trans h.low a5, h2⟩, h.keptBelow a2⟩
def Stands (B p q : Nat) (w : World) (X : SS) (O : List Row) (e : Ending) (w' : World) : Prop :=
  ∃ S D A c, e = .returned (.int .i64 0) ∧ Stand B w' p q S D X O A c ∧ Below B w w'
theorem commit_stand {B : Nat} (p q : Nat) (S : Nat → Prop) (D : DS) (X : SS) (O : List Row) (A A1 : Option Addr) (c c1 : Nat) (img : Row) (w : World) (h : Stand B w p q S D X O A c) (hi : Bytes w A1 img) (hfar : img ≠ [] → ∀ b o, A1 = some ⟨b, o, none⟩ → ¬ S b ∧ b ≠ q) (hl : img.length ≤ 814) (hn : X.num < 1125899906842624) :
    Calls Try.prog 30 #[.pointer (some ⟨q, 0, none⟩), .slice A1 img.length c1] w (Stands B p q w ⟨X.num + 1, img, 1 - X.at_, X.num + 1, false⟩ (packK X.num X.img 16)) := by
  refine (commit_any q p S D X A A1 c c1 img w h.disk h.mem h.off h.holds.ok hi hfar (by omega) (fun i => by rw [h.holds.dry i]; simp)).mono ?_
  obtain ⟨h1, h2, h3⟩ := DS.commit_free h.holds hl hn
  rw [h1, h2]
  rw [h2] at h3
  rintro e w' ⟨S', A', c', a1, a2, a3, a4, a5⟩
  refine ⟨S', _, A', c', a1, ⟨a2, a3, fun hs => ?_, h.base, h3⟩, a4.below h.disk.low fun i hi => hi.elim (fun hs => (h.disk.base i hs).1) (fun e => by rw [e]; exact h.base)⟩
  rcases a5 q hs with a6 | a6
  · exact h.off a6
  · exact absurd (lt_of h.mem.own) (Nat.not_lt.2 a6)
theorem commit_long {B : Nat} (p q : Nat) (S : Nat → Prop) (D : DS) (X : SS) (O : List Row) (A A1 : Option Addr) (c c1 : Nat) (img : Row) (w : World) (h : Stand B w p q S D X O A c) (hi : Bytes w A1 img) (hfar : img ≠ [] → ∀ b o, A1 = some ⟨b, o, none⟩ → ¬ S b ∧ b ≠ q) (hl : 814 < img.length) (hl2 : img.length ≤ 140737488351232) :
    Calls Try.prog 30 #[.pointer (some ⟨q, 0, none⟩), .slice A1 img.length c1] w fun e w' => ∃ S' A' c', e = .returned (.int .i64 3) ∧ Stand B w' p q S' D X O A' c' ∧ Below B w w' := by
  refine (commit_any q p S D X A A1 c c1 img w h.disk h.mem h.off h.holds.ok hi hfar hl2 (fun i => by rw [h.holds.dry i]; simp)).mono ?_
  have hnd : ¬ X.dead = true := by rw [h.holds.live]; simp
  have hb : commitBad X img := .inl hl
  have h1 : D.commitE X img = 3 := by unfold DS.commitE; rw [if_neg hnd, if_pos hb]
  have h2 : D.commitX X img = X := by unfold DS.commitX; rw [if_neg hnd, if_pos hb]
  have h3 : D.commitD X img = D := by unfold DS.commitD; rw [if_neg hnd, if_pos hb]
  rw [h1, h2, h3]
  rintro e w' ⟨S', A', c', a1, a2, a3, a4, a5⟩
  refine ⟨S', A', c', a1, ⟨a2, a3, fun hs => ?_, h.base, h.holds⟩, a4.below h.disk.low fun i hi => hi.elim (fun hs => (h.disk.base i hs).1) (fun e => by rw [e]; exact h.base)⟩
  rcases a5 q hs with a6 | a6
  · exact h.off a6
  · exact absurd (lt_of h.mem.own) (Nat.not_lt.2 a6)
def Opened (p : Nat) (w : World) (X : SS) (e : Ending) (w' : World) : Prop :=
  ∃ q A c, e = .returned (.tuple #[.pointer (some ⟨q, 0, none⟩), .int .i64 0]) ∧ w.heap.size ≤ q ∧ SMem w' q p (fun k => k < w.heap.size) X A c ∧ Below w.heap.size w w'
theorem open_stand {B : Nat} (p q : Nat) (S : Nat → Prop) (D : DS) (X : SS) (O : List Row) (A : Option Addr) (c : Nat) (w : World) (h : Stand B w p q S D X O A c) :
    Calls Try.prog 25 #[.pointer (some ⟨p, 0, none⟩)] w (Opened p w X) := by
  refine (open_any p S D w h.disk).mono ?_
  have h1 := DS.open_free h.holds
  have h2 := h.holds.wide
  rintro e w' ⟨hb, a | a | a⟩
  · omega
  · rw [h1] at a; exact absurd a.2.1 (by simp)
  · obtain ⟨_, _, q', A', c', a1, a2, a3⟩ := a
    rw [h1] at a3
    exact ⟨q', A', c', a1, a2, a3, hb⟩
theorem bytes_litF (w : World) (l : List UInt8) (cs : Array Value) (t : TypeId) (fr : Nat × Nat) (h : cs.toList = secV l) : Bytes (w.alloc (.cells cs t fr)) (some ⟨w.heap.size, 0, none⟩) l := by
  refine .inr ⟨_, _, rfl, by simp, fun j v hv => ?_⟩
  rw [Nat.zero_add, cell_of (heap_alloc_new w _), ← Array.getElem?_toList, h]
  exact hv

set_option maxRecDepth 100000 in
set_option maxHeartbeats 2000000 in
theorem known3_any (w : World) : Calls Try.prog 20 #[] w fun e w' => e = .returned (.bool true) ∧ Below w.heap.size w w' := by
  go_enter Try.func20, Try.ntmps20
  go_wp2_with fail
  refine (dk_new 32 w (by omega) (by omega)).mono ?_
  rintro e w1 ⟨p, S, rfl, hd, hb⟩
  have HD := Lib.hid hd; have HB := Lib.hid hb
  clear hd hb
  have hcv := Lib.run_convert_bytes_const (P := Try.prog) w1 22 5 #[.int .u8 97] 1 1 Try.underlying22 Try.underlying5
  go_wp2_with fail
  clear hcv
  refine (format_stand p S _ _ 1 [97] _ (HD.out.alloc _) (by decide) (fun i => rfl) (by simp [freshD]) (bytes_litF w1 [97] _ _ _ rfl) (fun _ b o e hs => by cases e; have := (HD.out.base _ hs).2; omega) (by simp)).mono ?_
  rintro e w2 ⟨q, S2, D2, A2, c2, rfl, hst, hb⟩
  have HB2 : Hid (Below w.heap.size w w2) := Lib.hid ((HB.out.alloc HB.out.size _).trans hb)
  have HS2 := Lib.hid hst
  clear hst hb
  have hcv := Lib.run_convert_bytes_const (P := Try.prog) w2 22 5 #[.int .u8 98] 1 1 Try.underlying22 Try.underlying5
  go_wp2_with fail
  clear hcv
  refine (commit_stand p q S2 D2 _ _ A2 _ c2 1 [98] _ (HS2.out.below (below_alloc1 _ _)) (bytes_litF w2 [98] _ _ _ rfl) (fun _ b o e => by cases e; exact ⟨fun hs => absurd (HS2.out.disk.base _ hs).2 (Nat.lt_irrefl _), fun e => absurd (lt_of HS2.out.mem.own) (by rw [e]; exact Nat.lt_irrefl _)⟩) (by simp) (by show 1 < 1125899906842624; omega)).mono ?_
  rintro e w3 ⟨S3, D3, A3, c3, rfl, hst, hb⟩
  have HB3 : Hid (Below w.heap.size w w3) := Lib.hid ((HB2.out.alloc HB2.out.size _).trans hb)
  have HS3 := Lib.hid hst
  clear hst hb
  go_wp2_with fail
  refine (open_stand p q S3 D3 _ _ A3 c3 w3 HS3.out).mono ?_
  rintro e w4 ⟨q4, A4, c4, rfl, hq4, hm4, hb⟩
  have HB4 : Hid (Below w.heap.size w w4) := Lib.hid (HB3.out.trans (hb.mono HB3.out.size))
  have HM4 := Lib.hid hm4
  clear hq4 hm4 hb
  go_wp2_with fail
  refine (image_any q4 p _ _ A4 c4 w4 HM4.out (by simp)).mono ?_
  rintro e w5 ⟨A5, c5, rfl, hf, hb⟩
  have HB5 : Hid (Below w.heap.size w w5) := Lib.hid (HB4.out.trans (hb.mono HB4.out.size))
  have HM5 := Lib.hid (HM4.out.below hb)
  have hcv : (convert 22 9 (.slice A5 1 c5)).run Try.prog w5 = .ok (.string ⟨#[98]⟩) w5 := conv_text w5 A5 [98] c5 hf.bytes
  clear hf hb
  go_wp2_with fail
  refine (snumber_any q4 p _ _ A4 c4 w5 HM5.out).mono ?_
  rintro e w6 ⟨rfl, rfl⟩
  go_wp2_with fail
  go_ret
  exact ⟨rfl, HB5.out⟩
end Go.Proofs.Ythbdlfkdemjpoaa
