/- Plain facts: a sector of which one byte is turned is of no slot. No condition. -/
import Derived.Test.YthbdlfkdemjpoaaB12
namespace Go.Proofs.Ythbdlfkdemjpoaa

theorem xor_cancel {a b c : Nat} (h : a ^^^ c = b ^^^ c) : a = b := by
  have := congrArg (· ^^^ c) h
  simpa [Nat.xor_assoc] using this
theorem crcStep_top {v : Nat} (h : v < 4294967296) : (crcStep v).testBit 31 = decide (v % 2 = 1) := by
  have h2 : (v / 2).testBit 31 = false := Nat.testBit_lt_two_pow (by omega)
  have h3 : (3988292384 : Nat).testBit 31 = true := by decide
  unfold crcStep
  split
  · rename_i ho
    rw [Nat.testBit_xor, h2, h3]
    simp [ho]
  · rename_i ho
    rw [h2]
    simp [ho]
theorem crcStep_inj {x y : Nat} (hx : x < 4294967296) (hy : y < 4294967296) (h : crcStep x = crcStep y) : x = y := by
  have ht : decide (x % 2 = 1) = decide (y % 2 = 1) := by rw [← crcStep_top hx, ← crcStep_top hy, h]
  by_cases hp : x % 2 = 1
  · have hq : y % 2 = 1 := by simpa [hp] using ht
    unfold crcStep at h
    rw [if_pos hp, if_pos hq] at h
    have := xor_cancel h
    omega
  · have hq : ¬ y % 2 = 1 := by simpa [hp] using ht
    unfold crcStep at h
    rw [if_neg hp, if_neg hq] at h
    omega
theorem crcN_inj {x y : Nat} (hx : x < 4294967296) (hy : y < 4294967296) : ∀ k, crcN k x = crcN k y → x = y
  | 0, h => h
  | k + 1, h => crcN_inj hx hy k (crcStep_inj (crcN_lt hx k) (crcN_lt hy k) h)
theorem byte_lt (v : Nat) (c : UInt8) (h : v < 4294967296) : v ^^^ c.toNat < 4294967296 :=
  Nat.xor_lt_two_pow (n := 32) h (Nat.lt_of_lt_of_le c.toNat_lt (by decide))
theorem crcByte_state {v v' : Nat} {c : UInt8} (h : v < 4294967296) (h' : v' < 4294967296) (e : crcByte v c = crcByte v' c) : v = v' :=
  xor_cancel (crcN_inj (byte_lt v c h) (byte_lt v' c h') 8 e)
theorem crcByte_byte {v : Nat} {c c' : UInt8} (h : v < 4294967296) (e : crcByte v c = crcByte v c') : c = c' := by
  have := crcN_inj (byte_lt v c h) (byte_lt v c' h) 8 e
  rw [Nat.xor_comm v, Nat.xor_comm v] at this
  exact UInt8.toNat_inj.1 (xor_cancel this)
theorem crcByte_lt' {v : Nat} {c : UInt8} (h : v < 4294967296) : crcByte v c < 4294967296 := crcN_lt (byte_lt v c h) 8
theorem crcF_lt' {v : Nat} (h : v < 4294967296) : ∀ l, crcF v l < 4294967296
  | [] => h
  | c :: l => crcF_lt' (crcByte_lt' (c := c) h) l
theorem crcF_state : ∀ (l : List UInt8) {v v' : Nat}, v < 4294967296 → v' < 4294967296 → crcF v l = crcF v' l → v = v'
  | [], _, _, _, _, e => e
  | _ :: l, _, _, h, h', e => crcByte_state h h' (crcF_state l (crcByte_lt' h) (crcByte_lt' h') e)
theorem crcF_turn : ∀ (l : List UInt8) (j : Nat) (b : UInt8) {v : Nat}, v < 4294967296 → j < l.length → crcF v (l.set j b) = crcF v l → l[j]? = some b
  | [], _, _, _, _, hj, _ => absurd hj (by simp)
  | c :: l, 0, b, v, h, _, e => by
    have e' : crcF (crcByte v b) l = crcF (crcByte v c) l := e
    have := crcByte_byte h (crcF_state l (crcByte_lt' h) (crcByte_lt' h) e')
    subst this
    rfl
  | c :: l, j + 1, b, v, h, hj, e => by
    have e' : crcF (crcByte v c) (l.set j b) = crcF (crcByte v c) l := e
    exact crcF_turn l j b (crcByte_lt' h) (by simpa using hj) e'
theorem crc_turn {l : List UInt8} {j : Nat} {b : UInt8} (hj : j < l.length) (e : crc (l.set j b) = crc l) : l[j]? = some b := by
  unfold crc at e
  rw [Nat.xor_comm, Nat.xor_comm _ (crcF _ l)] at e
  exact crcF_turn l j b (by decide) hj (xor_cancel e)
/-- A sector whose check is right. -/
def Right (r : Row) : Prop := leB (crc (r.take 60)) 4 = r.drop 60
theorem right_pack {n : Nat} {img : Row} {i : Nat} (h : img.length ≤ 814) (hi : i < 16) : Right (packRow n img i) := by
  unfold Right
  rw [packRow_take60 n img i h hi, packRow_drop60 n img i h hi]
theorem right_turn {r : Row} {j : Nat} {b : UInt8} (hl : r.length = 64) (hj : j < 64) (h : Right r) (h' : Right (r.set j b)) : r[j]? = some b := by
  unfold Right at h h'
  by_cases h6 : j < 60
  · rw [List.drop_set_of_lt (by omega), ← h, List.take_set] at h'
    have h1 := crc_lt ((r.take 60).set j b)
    have h2 := crc_lt (r.take 60)
    have h3 := congrArg numB h'
    rw [numB_leB (by omega), numB_leB (by omega)] at h3
    have := crc_turn (by rw [List.length_take]; omega) h3
    rw [List.getElem?_take] at this
    simpa [h6] using this
  · have e1 : (r.set j b).take 60 = r.take 60 := by rw [List.take_set_of_le (by omega)]
    rw [e1, h, List.drop_set] at h'
    have h4 := congrArg (fun l => l[j - 60]?) h'
    rw [if_neg (by omega)] at h4
    simp only [List.getElem?_set, List.length_drop, hl] at h4
    rw [if_pos trivial, if_pos (by omega), List.getElem?_drop] at h4
    have e2 : 60 + (j - 60) = j := by omega
    rw [e2] at h4
    exact h4
theorem wholeOf_wrong {ls : List Row} {i : Nat} {r : Row} (hi : i < 16) (hr : ls[i]? = some r) (hw : ¬ Right r) : wholeOf ls = none := by
  cases h : wholeOf ls with
  | none => rfl
  | some v =>
    obtain ⟨n, img⟩ := v
    obtain ⟨_, _, h3, rfl⟩ := wholeOf_some h
    simp only [packK, List.getElem?_map, List.getElem?_range hi, Option.map_some, Option.some.injEq] at hr
    subst hr
    exact absurd (right_pack h3 hi) hw
/-! ### a slot of which one byte is turned -/
theorem DS.write_slot {D : DS} {i s : Nat} {l : Row} (hl : l.length = 64) :
    (∀ k, ¬ (16 * s ≤ i ∧ i < 16 * s + 16) → k = s → (D.write i l).slot (16 * k) 16 = D.slot (16 * k) 16) ∧ (16 * s ≤ i → i < 16 * s + 16 → ((D.write i l).slot (16 * s) 16)[i - 16 * s]? = some l) := by
  have hr : ∀ j, (D.write i l).read j = if j = i then l else D.read j := fun j => by
    show ((if j = i then D.waits i ++ [pad l] else D.waits j).getLast?).getD (D.lasts.getD j []) = _
    by_cases h : j = i
    · rw [if_pos h, if_pos h, pad_full hl]; simp
    · rw [if_neg h, if_neg h]; rfl
  refine ⟨fun k h e => ?_, fun h1 h2 => ?_⟩
  · subst e
    unfold DS.slot
    refine List.map_congr_left fun x hx => ?_
    have : x < 16 := by simpa using hx
    rw [hr, if_neg (by omega)]
  · rw [slot_get _ _ _ _ (by omega), hr, if_pos (by omega)]
/-- What Open finds behind one turned byte of the slot that counts. -/
theorem DS.turned_open {D : DS} {X : SS} {O : List Row} (h : D.Holds X O) {k j : Nat} {b : UInt8} {r : Row} (hk : k < 16) (hj : j < 64) (hr : r = D.read (16 * X.at_ + k)) (hb : r[j]? ≠ some b) :
    (O = zeroSlot → (openK (D.write (16 * X.at_ + k) (r.set j b)) 2).1 = false) ∧ (∀ m img, O = packK m img 16 → 1 ≤ m → m ≤ 1125899906842624 → img.length ≤ 814 → (openK (D.write (16 * X.at_ + k) (r.set j b)) 2).1 = true ∧ (openK (D.write (16 * X.at_ + k) (r.set j b)) 2).2.img = img) := by
  have hat := h.ok.at_
  have hr2 : r = packRow X.num X.img k := by
    have := slot_get D (16 * X.at_) 16 k hk
    rw [h.cur] at this
    simp only [packK, List.getElem?_map, List.getElem?_range hk, Option.map_some, Option.some.injEq] at this
    rw [hr, this]
  have hrl : r.length = 64 := by rw [hr2]; exact packK_row_length h.ok.img (n := X.num) (img := X.img) (by simp only [packK, List.mem_map, List.mem_range]; exact ⟨k, hk, rfl⟩)
  have hw : ¬ Right (r.set j b) := fun h' => hb (right_turn hrl hj (by rw [hr2]; exact right_pack h.ok.img hk) h')
  have hl : (r.set j b).length = 64 := by rw [List.length_set, hrl]
  have s1 : wholeOf ((D.write (16 * X.at_ + k) (r.set j b)).slot (16 * X.at_) 16) = none := by
    refine wholeOf_wrong hk ?_ hw
    have := (DS.write_slot (D := D) (i := 16 * X.at_ + k) (s := X.at_) hl).2 (by omega) (by omega)
    have e : 16 * X.at_ + k - 16 * X.at_ = k := by omega
    rw [e] at this
    exact this
  have s2 : (D.write (16 * X.at_ + k) (r.set j b)).slot (16 * (1 - X.at_)) 16 = O := by
    rw [(DS.write_slot (D := D) (i := 16 * X.at_ + k) (s := 1 - X.at_) hl).1 (1 - X.at_) (by omega) rfl, h.ahead]
  obtain ⟨E, hE⟩ : ∃ E, E = D.write (16 * X.at_ + k) (r.set j b) := ⟨_, rfl⟩
  rw [← hE] at s1 s2 ⊢
  have h1 : wholeOf (E.slot (16 * (1 - X.at_)) 16) = wholeOf O := by rw [s2]
  rcases (show X.at_ = 0 ∨ X.at_ = 1 by omega) with ha | ha
  · rw [ha] at s1 h1
    have h1' : wholeOf (E.slot (16 * 1) 16) = wholeOf O := h1
    refine ⟨fun hO => ?_, fun m img hO m1 m2 m3 => ?_⟩
    · subst hO
      rw [wholeOf_zero] at h1'
      simp [openK, s1, h1']
    · rw [hO, wholeOf_pack m3 m1 m2] at h1'
      simp [openK, s1, h1']
  · rw [ha] at s1 h1
    have h1' : wholeOf (E.slot (16 * 0) 16) = wholeOf O := h1
    refine ⟨fun hO => ?_, fun m img hO m1 m2 m3 => ?_⟩
    · subst hO
      rw [wholeOf_zero] at h1'
      simp [openK, s1, h1']
    · rw [hO, wholeOf_pack m3 m1 m2] at h1'
      simp [openK, s1, h1']
end Go.Proofs.Ythbdlfkdemjpoaa
