/- Plain facts: what is packed is whole; what is laid on a disk without a fuse is read. No condition. -/
import Derived.Test.YthbdlfkdemjpoaaB10
namespace Go.Proofs.Ythbdlfkdemjpoaa

theorem numB_leB_mod (n : Nat) : ∀ k, numB (leB n k) = n % 256 ^ k
  | 0 => by simp [leB, numB]; omega
  | k + 1 => by
    rw [leB_succ, numB_snoc, numB_leB_mod n k, leB_length, Nat.mod_pow_succ]
    have e : (UInt8.ofNat (n / 2 ^ (8 * k))).toNat = n / 256 ^ k % 256 := by
      have : (UInt8.ofNat (n / 2 ^ (8 * k))).toNat = n / 2 ^ (8 * k) % 256 := UInt8.toNat_ofNat'
      rw [this, Nat.pow_mul]
    rw [e, Nat.mul_comm]
theorem numB_leB {n k : Nat} (h : n < 256 ^ k) : numB (leB n k) = n := by rw [numB_leB_mod, Nat.mod_eq_of_lt h]
theorem packHead_take8 (n : Nat) (img : Row) (i : Nat) : (packHead n img i).take 8 = leB n 8 := by
  unfold packHead
  rw [List.append_assoc, List.take_left' (by rw [leB_length])]
theorem packRow_take8 (n : Nat) (img : Row) (i : Nat) (h : img.length ≤ 814) (hi : i < 16) : (packRow n img i).take 8 = leB n 8 := by
  unfold packRow
  rw [List.take_append_of_le_length (by rw [packHead_length h hi]; omega), packHead_take8]
theorem packRow_take60 (n : Nat) (img : Row) (i : Nat) (h : img.length ≤ 814) (hi : i < 16) : (packRow n img i).take 60 = packHead n img i := by
  unfold packRow
  rw [List.take_left' (packHead_length h hi)]
theorem packRow_drop60 (n : Nat) (img : Row) (i : Nat) (h : img.length ≤ 814) (hi : i < 16) : (packRow n img i).drop 60 = leB (crc (packHead n img i)) 4 := by
  unfold packRow
  rw [List.drop_left' (packHead_length h hi)]
theorem rowNum_pack (n : Nat) (img : Row) (i : Nat) (h : img.length ≤ 814) (hi : i < 16) (hn : n ≤ 1125899906842624) : rowNum (packRow n img i) = n := by
  have h1 : numB (leB n 8) = n := numB_leB (by omega)
  have h2 := crc_lt (packHead n img i)
  have h3 : numB (leB (crc (packHead n img i)) 4) = crc (packHead n img i) := numB_leB (by omega)
  unfold rowNum
  rw [packRow_take8 n img i h hi, packRow_take60 n img i h hi, packRow_drop60 n img i h hi, h1, h3, if_pos ⟨rfl, hn⟩]
theorem greatest_const : ∀ {l : List Row} {n : Nat}, l ≠ [] → (∀ r ∈ l, rowNum r = n) → greatest l = n
  | [], _, h, _ => absurd rfl h
  | [r], n, _, h => by have := h r (by simp); simp [greatest, this]
  | r :: s :: l, n, _, h => by
    have h1 := h r (by simp)
    have h2 := greatest_const (l := s :: l) (n := n) (by simp) (fun x hx => h x (by simp [List.mem_cons.1 hx]))
    simp only [greatest] at h2 ⊢
    omega
theorem packK_mem {n : Nat} {img : Row} {k : Nat} {r : Row} (h : r ∈ packK n img k) : ∃ i, i < k ∧ r = packRow n img i := by
  simp only [packK, List.mem_map, List.mem_range] at h
  obtain ⟨i, hi, rfl⟩ := h
  exact ⟨i, hi, rfl⟩
theorem greatest_pack {n : Nat} {img : Row} (h : img.length ≤ 814) (hn : n ≤ 1125899906842624) : greatest (packK n img 16) = n := by
  refine greatest_const (fun e => ?_) (fun r hr => ?_)
  · have := congrArg List.length e; rw [packK_length] at this; simp at this
  · obtain ⟨i, hi, rfl⟩ := packK_mem hr
    exact rowNum_pack n img i h hi hn
theorem midR_pack (n : Nat) (img : Row) (i : Nat) (h : img.length ≤ 814) (hi : i < 16) : midR (packRow n img i) = ((packAll img).drop (51 * i)).take 51 := by
  have hl : (((packAll img).drop (51 * i)).take 51).length = 51 := by
    rw [List.length_take, List.length_drop, packAll_length h]; omega
  unfold midR packRow packHead
  rw [List.append_assoc, List.drop_left' (by simp [leB_length])]
  rw [List.take_left' hl]
theorem chunks (l : Row) : ∀ k, ((List.range k).map fun i => (l.drop (51 * i)).take 51).flatten = l.take (51 * k)
  | 0 => by simp
  | k + 1 => by
    rw [List.range_succ, List.map_append, List.flatten_append, chunks l k, Nat.mul_succ, List.take_add]
    simp
theorem allK_pack {n : Nat} {img : Row} (h : img.length ≤ 814) : allK (packK n img 16) 16 = packAll img := by
  unfold allK
  rw [List.take_of_length_le (by rw [packK_length]; omega)]
  have e : (packK n img 16).map midR = (List.range 16).map fun i => ((packAll img).drop (51 * i)).take 51 := by
    unfold packK
    rw [List.map_map]
    refine List.map_congr_left fun i hi => ?_
    exact midR_pack n img i h (by simpa using hi)
  rw [e, chunks, List.take_of_length_le (by rw [packAll_length h]; omega)]
theorem numOf_pack {n : Nat} {img : Row} (h : img.length ≤ 814) (hn : n ≤ 1125899906842624) : numOf (packK n img 16) = n := by
  unfold numOf
  have e : (packK n img 16).getD 0 [] = packRow n img 0 := by simp [packK, List.getD_eq_getElem?_getD]
  rw [e, packRow_take8 n img 0 h (by omega), numB_leB (by omega)]
theorem sizeOf_pack {n : Nat} {img : Row} (h : img.length ≤ 814) : sizeOfRows (packK n img 16) = img.length := by
  unfold sizeOfRows
  rw [allK_pack h]
  have e : (packAll img).take 2 = leB img.length 2 := by
    unfold packAll zpad
    rw [List.append_assoc, List.take_left' (leB_length _ _)]
  rw [e, numB_leB (by omega)]
theorem imgOf_pack {n : Nat} {img : Row} (h : img.length ≤ 814) : imgOf (packK n img 16) = img := by
  have h1 := sizeOf_pack (n := n) h
  unfold sizeOfRows at h1
  unfold imgOf
  rw [h1, allK_pack h]
  unfold packAll zpad
  rw [List.append_assoc, List.drop_left' (leB_length _ _), List.take_left' rfl]
theorem wholeOf_pack {n : Nat} {img : Row} (h : img.length ≤ 814) (h1 : 1 ≤ n) (hn : n ≤ 1125899906842624) : wholeOf (packK n img 16) = some (n, img) := by
  unfold wholeOf
  rw [numOf_pack h hn, sizeOf_pack h, imgOf_pack h, if_neg (by omega), if_pos rfl]

/-! ### a disk without a fuse -/
theorem DS.layP_free {D : DS} {b : Nat} {ls : List Row} (hf : D.fuse < 0) (hb : b + ls.length ≤ D.lasts.length) (hr : ∀ r ∈ ls, r.length ≤ 64) : ∀ k, k ≤ ls.length →
    (D.layP b ls k).2 = 0 ∧ (D.layP b ls k).1.fuse = D.fuse ∧ ∀ i, (D.layP b ls k).1.waits i = if b ≤ i ∧ i < b + k then D.waits i ++ [pad (ls.getD (i - b) [])] else D.waits i
  | 0, _ => ⟨rfl, rfl, fun i => by rw [if_neg (by omega)]; rfl⟩
  | k + 1, hk => by
    obtain ⟨h1, h2, h3⟩ := DS.layP_free hf hb hr k (by omega)
    have hgd : (ls.getD k []).length ≤ 64 := by
      rw [List.getD_eq_getElem?_getD, List.getElem?_eq_getElem (show k < ls.length by omega)]
      exact hr _ (List.getElem_mem _)
    have hla := DS.layP_lasts D b ls k
    have hbad : ¬ (D.layP b ls k).1.bad ((b + k : Nat) : Int) (ls.getD k []) := by
      unfold DS.bad
      rw [hla]
      omega
    have hf0 : ¬ (D.layP b ls k).1.fuse = 0 := by omega
    have e : D.layP b ls (k + 1) = ((D.layP b ls k).1.write (b + k) (ls.getD k []), 0) := by
      show (if (D.layP b ls k).2 = 0 then _ else D.layP b ls k) = _
      rw [if_pos h1]
      unfold DS.writeA DS.writeE
      rw [if_neg hf0, if_neg hbad, if_neg hf0, if_neg hbad]
      rfl
    rw [e]
    refine ⟨rfl, ?_, fun i => ?_⟩
    · show (DS.burn _).fuse = _
      show (if 0 < (D.layP b ls k).1.fuse then _ else (D.layP b ls k).1.fuse) = _
      rw [if_neg (by omega), h2]
    · show ((D.layP b ls k).1.put (b + k) (pad (ls.getD k []))).waits i = _
      simp only [DS.put]
      by_cases hi : i = b + k
      · subst hi
        rw [if_pos rfl, h3, if_neg (by omega), if_pos (by omega)]
        simp
      · rw [if_neg hi, h3]
        by_cases h4 : b ≤ i ∧ i < b + k
        · rw [if_pos h4, if_pos (by omega)]
        · rw [if_neg h4, if_neg (by omega)]
/-- What is laid on a disk without a fuse. -/
theorem DS.layA_free {D : DS} {b : Nat} {ls : List Row} (hf : D.fuse < 0) (hb : b + ls.length ≤ D.lasts.length) (hr : ∀ r ∈ ls, r.length ≤ 64) :
    (D.layA b ls).2 = 0 ∧ (D.layA b ls).1.fuse = D.fuse ∧ (∀ i, (D.layA b ls).1.waits i = []) ∧ ∀ i, i < D.lasts.length → (D.layA b ls).1.read i = if b ≤ i ∧ i < b + ls.length then pad (ls.getD (i - b) []) else D.read i := by
  obtain ⟨h1, h2, h3⟩ := DS.layP_free hf hb hr ls.length (Nat.le_refl _)
  have hla := DS.layP_lasts D b ls ls.length
  have hf0 : ¬ (D.layP b ls ls.length).1.fuse = 0 := by omega
  have e : D.layA b ls = ((D.layP b ls ls.length).1.flush, 0) := by
    unfold DS.layA
    rw [if_pos h1]
    unfold DS.flushA DS.flushE
    rw [if_neg hf0, if_neg hf0]
  rw [e]
  refine ⟨rfl, ?_, fun i => rfl, fun i hi => ?_⟩
  · show (DS.burn _).fuse = _
    show (if 0 < (D.layP b ls ls.length).1.fuse then _ else (D.layP b ls ls.length).1.fuse) = _
    rw [if_neg (by omega), h2]
  · have e2 : (D.layP b ls ls.length).1.flush.read i = (D.layP b ls ls.length).1.read i := by
      show (([] : List Sec).getLast?).getD (((List.range (D.layP b ls ls.length).1.lasts.length).map (D.layP b ls ls.length).1.read).getD i []) = _
      rw [hla]
      simp [List.getD_eq_getElem?_getD, hi]
    rw [e2]
    unfold DS.read
    rw [h3, hla]
    by_cases h4 : b ≤ i ∧ i < b + ls.length
    · rw [if_pos h4, if_pos h4]
      simp
    · rw [if_neg h4, if_neg h4]
end Go.Proofs.Ythbdlfkdemjpoaa
