/- The sector package's Write and Flush told for every input. No condition. -/
import Derived.Test.YthbdlfkdemjpoaaP0
namespace Go.Proofs.Ythbdlfkdemjpoaa
open Go.RowKit Go.Maps

/-- What is wrong with a write. -/
def DS.bad (D : DS) (i : Int) (l : List UInt8) : Prop := i < 0 ∨ (D.lasts.length : Int) ≤ i ∨ 64 < l.length
instance (D : DS) (i : Int) (l : List UInt8) : Decidable (D.bad i l) := by unfold DS.bad; infer_instance
def DS.writeE (D : DS) (i : Int) (l : List UInt8) : Int := if D.fuse = 0 then 6 else if D.bad i l then 1 else 0
def DS.writeA (D : DS) (i : Int) (l : List UInt8) : DS := if D.fuse = 0 then D else if D.bad i l then D else D.write i.toNat l
def DS.flushE (D : DS) : Int := if D.fuse = 0 then 6 else 0
def DS.flushA (D : DS) : DS := if D.fuse = 0 then D else D.flush
theorem dk_writeA {B : Nat} (p : Nat) (S : Nat → Prop) (D : DS) (i : Int) (A : Option Addr) (l : List UInt8) (c : Nat) (w : World) (h : Dk B w p S D) (hA : Bytes w A l) (hroom : ∀ i, (D.waits i).length ≤ 1000000) :
    Calls Try.prog 23 #[.pointer (some ⟨p, 0, none⟩), .int .i64 i, .slice A l.length c] w fun e w' => ∃ S', e = .returned (.int .i64 (D.writeE i l)) ∧ Dk B w' p S' (D.writeA i l) ∧ Kept S w w' ∧ ∀ k, S' k → S k ∨ w.heap.size ≤ k := by
  unfold DS.writeE DS.writeA
  by_cases hf : D.fuse = 0
  · refine (write_dead p S D i A l.length c w h.at_ hf).mono ?_
    rintro e w' ⟨rfl, rfl⟩
    exact ⟨S, by simp [hf], by simpa [hf] using h, Kept.refl _ _, fun k hk => .inl hk⟩
  · by_cases hb : D.bad i l
    · have key : Calls Try.prog 23 #[.pointer (some ⟨p, 0, none⟩), .int .i64 i, .slice A l.length c] w fun e w' => e = .returned (.int .i64 1) ∧ w = w' := by
        by_cases h1 : i < 0
        · exact write_low p S D i A l.length c w h.at_ hf h1
        · by_cases h2 : (D.lasts.length : Int) ≤ i
          · exact write_high p S D i A l.length c w h.at_ hf (by omega) h2
          · exact write_long p S D i A l.length c w h.at_ hf (by omega) (by omega) (by rcases hb with h | h | h <;> omega)
      refine key.mono ?_
      rintro e w' ⟨rfl, rfl⟩
      exact ⟨S, by simp [hf, hb], by simpa [hf, hb] using h, Kept.refl _ _, fun k hk => .inl hk⟩
    · have h1 : 0 ≤ i := by unfold DS.bad at hb; omega
      have h2 : i.toNat < D.lasts.length := by unfold DS.bad at hb; omega
      have h3 : l.length ≤ 64 := by unfold DS.bad at hb; omega
      have e1 : ((i.toNat : Nat) : Int) = i := by omega
      have := dk_write p S D i.toNat A l c w h hf h2 hA h3 (hroom _)
      rw [e1] at this
      refine this.mono ?_
      rintro e w' ⟨S', rfl, hd, hk, hs⟩
      exact ⟨S', by simp [hf, hb], by simpa [hf, hb] using hd, hk, hs⟩
theorem dk_flushA {B : Nat} (p : Nat) (S : Nat → Prop) (D : DS) (w : World) (h : Dk B w p S D) (hroom : ∀ i, (D.waits i).length ≤ 1000000) :
    Calls Try.prog 35 #[.pointer (some ⟨p, 0, none⟩)] w fun e w' => e = .returned (.int .i64 D.flushE) ∧ Dk B w' p S D.flushA ∧ Kept S w w' := by
  unfold DS.flushE DS.flushA
  by_cases hf : D.fuse = 0
  · refine (flush_dead p S D w h.at_ hf).mono ?_
    rintro e w' ⟨rfl, rfl⟩
    exact ⟨by simp [hf], by simpa [hf] using h, Kept.refl _ _⟩
  · refine (dk_flush p S D w h hf hroom).mono ?_
    rintro e w' ⟨rfl, hd, hk⟩
    exact ⟨by simp [hf], by simpa [hf] using hd, hk⟩
theorem DS.writeA_lasts (D : DS) (i : Int) (l : List UInt8) : (D.writeA i l).lasts = D.lasts := by
  unfold DS.writeA; split
  · rfl
  · split <;> rfl
theorem DS.flush_lasts_length (D : DS) : D.flush.lasts.length = D.lasts.length := by
  show ((List.range D.lasts.length).map D.read).length = _; simp
theorem DS.flushA_lasts_length (D : DS) : D.flushA.lasts.length = D.lasts.length := by
  unfold DS.flushA; split
  · rfl
  · exact D.flush_lasts_length
theorem DS.writeA_waits_le {D : DS} {i : Int} {l : List UInt8} {n : Nat} (h : ∀ j, (D.waits j).length ≤ n) : ∀ j, ((D.writeA i l).waits j).length ≤ n + 1 := by
  intro j
  unfold DS.writeA
  split
  · exact Nat.le_succ_of_le (h j)
  · split
    · exact Nat.le_succ_of_le (h j)
    · exact write_waits_le h j
theorem DS.flushA_waits_le {D : DS} {n : Nat} (h : ∀ j, (D.waits j).length ≤ n) : ∀ j, (D.flushA.waits j).length ≤ n + 1 := by
  intro j
  unfold DS.flushA
  split
  · exact Nat.le_succ_of_le (h j)
  · show ([] : List Sec).length ≤ _; simp
theorem DS.crash_lasts_length (D : DS) (picks : List Int) : (D.crash picks).lasts.length = D.lasts.length := D.crashTo_length _ _
theorem Dk.drawn {B : Nat} {w : World} {p : Nat} {S : Nat → Prop} {D : DS} (h : Dk B w p S D) : Dk B { w with drawn := w.drawn + 1 } p S D := h.fix (Nat.le_refl _) fun _ _ _ => rfl
theorem below_drawn {B : Nat} {a w : World} (h : Below B a w) : Below B a { w with drawn := w.drawn + 1 } := ⟨h.os, h.tape, h.output, h.size, h.block⟩
theorem below_drawnN {B : Nat} {a w : World} (h : Below B a w) (n : Nat) : Below B a (w.drewN n) := ⟨h.os, h.tape, h.output, h.size, h.block⟩
end Go.Proofs.Ythbdlfkdemjpoaa
