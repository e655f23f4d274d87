/- Plain: a frame of which up to 32 neighbouring bits of the body are turned is told by its check sum. -/
import Derived.Test.YtjlohahknngmmaaPuF
import Derived.Test.YtjlohahknngmmaaCrcW
namespace Go.Proofs.Ytjlohahknngmmaa.PureD
set_option linter.unusedVariables false
open Go Go.RowKit Go.Proofs.Ytjlohahknngmmaa Go.Proofs.Ytjlohahknngmmaa.PD Go.Proofs.Ytjlohahknngmmaa.PureQ Go.Proofs.YtjlohahknngmmaaW.PrintWords Go.Proofs.YtjlohahknngmmaaW.PrintLast

/-- What is unframed of a head, a body and four bytes. -/
theorem unf_sum (kind : Int) (h0 : 0 ≤ kind) (h1 : kind ≤ 255) (body : ByteArray) (hs : body.size ≤ 1048576) (cr : Int) (hcr : 0 ≤ cr ∧ cr < 4294967296) :
    unf (strOfNums (frameHead kind body ++ nb cr 4)) = if cr = crcOf (strOfNums (frameHead kind body)).data.toList then (kind, body, ((12 + body.size : Nat) : Int), 0) else (0, ⟨#[]⟩, 0, 23) := by
  have hT : (strOfNums (frameHead kind body ++ nb cr 4)).data.toList = u8s (frameHead kind body) ++ u8s (nb cr 4) := by rw [u8s_str, u8s_append]
  have hH : u8s (frameHead kind body) = [68, 70] ++ u8s (nb kind 1) ++ u8s (nb 0 1) ++ u8s (nb (body.size : Int) 4) ++ body.data.toList := by
    simp only [frameHead, u8s_append, u8s_bytes]; rfl
  have hlen := frameHead_length kind body
  have hbl : body.data.toList.length = body.size := Array.length_toList
  have htz : (strOfNums (frameHead kind body ++ nb cr 4)).size = 12 + body.size := by
    rw [strOfNums_size, List.length_append, hlen, nb_length]; omega
  generalize strOfNums (frameHead kind body ++ nb cr 4) = t at *
  have e1 : (t.extract 0 2).data.toList = [68, 70] := ext_mid t [] [68, 70] _ 0 2 (by rw [hT, hH]; simp only [List.append_assoc, List.nil_append]; rfl) rfl rfl
  have e2 : bytesOf (t.extract 2 (2 + 1)) = nb kind 1 := bytesOf_u8s _ _ (ext_mid t [68, 70] (u8s (nb kind 1)) _ 2 (2 + 1) (by rw [hT, hH]; simp only [List.append_assoc]; rfl) rfl (by rw [u8s_length, nb_length])) (nb_bytes _ _)
  have e3 : bytesOf (t.extract 3 (3 + 1)) = nb 0 1 := bytesOf_u8s _ _ (ext_mid t ([68, 70] ++ u8s (nb kind 1)) (u8s (nb 0 1)) _ 3 (3 + 1) (by rw [hT, hH]; simp only [List.append_assoc]; rfl) (by rw [List.length_append, u8s_length, nb_length]; rfl) (by rw [u8s_length, nb_length])) (nb_bytes _ _)
  have e4 : bytesOf (t.extract 4 8) = nb (body.size : Int) 4 := bytesOf_u8s _ _ (ext_mid t ([68, 70] ++ u8s (nb kind 1) ++ u8s (nb 0 1)) (u8s (nb (body.size : Int) 4)) _ 4 8 (by rw [hT, hH]; simp only [List.append_assoc]; rfl) (by rw [List.length_append, List.length_append, u8s_length, nb_length, u8s_length, nb_length]; rfl) (by rw [u8s_length, nb_length])) (nb_bytes _ _)
  have e5 : t.extract 8 (8 + body.size) = body := data_inj (ext_mid t ([68, 70] ++ u8s (nb kind 1) ++ u8s (nb 0 1) ++ u8s (nb (body.size : Int) 4)) body.data.toList _ 8 (8 + body.size) (by rw [hT, hH]) (by simp only [List.length_append, u8s_length, nb_length, List.length_cons, List.length_nil]) (by rw [hbl]))
  have e6 : (t.extract 0 (8 + body.size)).data.toList = (strOfNums (frameHead kind body)).data.toList := ext_mid t [] (u8s (frameHead kind body)) _ 0 (8 + body.size) (by rw [hT]; simp only [List.nil_append]; rfl) rfl (by rw [u8s_length, hlen]; omega)
  have e7 : bytesOf (t.extract (8 + body.size) (12 + body.size)) = nb cr 4 := bytesOf_u8s _ _ (ext_mid t (u8s (frameHead kind body)) (u8s (nb cr 4)) [] (8 + body.size) (12 + body.size) (by rw [hT, List.append_nil]) (by rw [u8s_length, hlen]) (by rw [u8s_length, nb_length]; omega)) (nb_bytes _ _)
  have k2 : bt t 2 = kind := by
    have := one_byte t 2 (by omega)
    rw [e2] at this
    simp only [nb, List.nil_append, List.cons.injEq, and_true] at this
    have h2 : bt t ((2 : Nat) : Int) = bt t 2 := rfl
    omega
  have k3 : bt t 3 = 0 := by
    have := one_byte t 3 (by omega)
    rw [e3] at this
    simp only [nb, List.nil_append, List.cons.injEq, and_true] at this
    have h2 : bt t ((3 : Nat) : Int) = bt t 3 := rfl
    omega
  have k4 : beN (bytesOf (t.extract 4 8)) = (body.size : Int) := by rw [e4, be_nb 4 _ (by omega) (by omega)]
  have k7 : beN (bytesOf (t.extract (8 + body.size) (12 + body.size))) = cr := by rw [e7, be_nb 4 _ hcr.1 (by have := hcr.2; omega)]
  unfold unf
  rw [if_neg (by omega), if_pos ⟨by rw [ByteArray.toList_eq, e1], k3, by rw [k4]; omega⟩, k4, Int.toNat_natCast]
  unfold unfR
  rw [if_neg (by omega), k7, e6]
  split
  · rw [k2, e5]
  · rfl

/-! ### Bits -/
def bitAt (l : List UInt8) (j : Nat) : Bool := (l.getD (j / 8) 0).toNat.testBit (j % 8)
theorem bits8_get (c : UInt8) (i : Nat) (h : i < 8) : (bits8 c)[i]? = some (c.toNat.testBit i) := by
  unfold bits8
  rw [List.getElem?_map, List.getElem?_range h]; rfl
theorem bitsAll_get : ∀ (l : List UInt8) (j : Nat), j < 8 * l.length → (bitsAll l)[j]? = some (bitAt l j)
  | [], j, h => by simp at h
  | c :: l, j, h => by
    have hb : (bits8 c).length = 8 := by simp [bits8]
    unfold bitsAll
    rw [List.flatMap_cons]
    by_cases hj : j < 8
    · rw [List.getElem?_append_left (by omega), bits8_get c j hj]
      unfold bitAt
      rw [show j / 8 = 0 by omega, show j % 8 = j by omega]; rfl
    · rw [List.getElem?_append_right (by omega), hb]
      have := bitsAll_get l (j - 8) (by simp only [List.length_cons] at h; omega)
      unfold bitsAll at this
      rw [this]
      unfold bitAt
      rw [show j / 8 = (j - 8) / 8 + 1 by omega, show j % 8 = (j - 8) % 8 by omega, List.getD_cons_succ]
theorem bitsAll_length : ∀ l : List UInt8, (bitsAll l).length = 8 * l.length
  | [] => rfl
  | c :: l => by
    have := bitsAll_length l
    unfold bitsAll at this ⊢
    rw [List.flatMap_cons, List.length_append, this]
    simp [bits8]; omega
/-- Two lists of bits that part within a window of 32 alone. -/
theorem windows {X Y : List Bool} (hl : X.length = Y.length) (p n : Nat) (hn : n ≤ 32) (hout : ∀ j, j < p ∨ p + n ≤ j → X[j]? = Y[j]?) (hne : X ≠ Y) :
    ∃ A W W' Z, X = A ++ W ++ Z ∧ Y = A ++ W' ++ Z ∧ W.length = W'.length ∧ W.length ≤ 32 ∧ W ≠ W' := by
  have hX : X = X.take p ++ (X.drop p).take n ++ X.drop (p + n) := by
    rw [List.append_assoc, ← List.drop_drop, List.take_append_drop, List.take_append_drop]
  have hY : Y = Y.take p ++ (Y.drop p).take n ++ Y.drop (p + n) := by
    rw [List.append_assoc, ← List.drop_drop, List.take_append_drop, List.take_append_drop]
  have e1 : X.take p = Y.take p := by
    apply List.ext_getElem?
    intro j
    by_cases hj : j < p
    · rw [List.getElem?_take_of_lt hj, List.getElem?_take_of_lt hj, hout j (.inl hj)]
    · rw [List.getElem?_eq_none (by simp; omega), List.getElem?_eq_none (by simp; omega)]
  have e2 : X.drop (p + n) = Y.drop (p + n) := by
    apply List.ext_getElem?
    intro j
    rw [List.getElem?_drop, List.getElem?_drop, hout _ (.inr (by omega))]
  refine ⟨X.take p, (X.drop p).take n, (Y.drop p).take n, X.drop (p + n), hX, by rw [e1, e2]; exact hY, by simp [hl], by simp; omega, fun h => hne ?_⟩
  rw [hX, hY, h, e1, e2]

/-- The state of the law's loop: M is what became of M0: the bits from 'place' on, up to i of them, turned where 'turn' says so. -/
def Turned (turn place i : Nat) (M0 M : List UInt8) : Prop :=
  M.length = M0.length ∧ ∀ j, j < 8 * M0.length → bitAt M j = (bitAt M0 j != (decide (place ≤ j ∧ j < place + i) && turn.testBit (j - place)))
theorem turned_zero (turn place : Nat) (M0 : List UInt8) : Turned turn place 0 M0 M0 :=
  ⟨rfl, fun j hj => by rw [show decide (place ≤ j ∧ j < place + 0) = false from decide_eq_false (by omega)]; simp⟩
theorem turned_skip {turn place i : Nat} {M0 M : List UInt8} (h : Turned turn place i M0 M) (hs : turn.testBit i = false ∨ 8 * M0.length ≤ place + i) : Turned turn place (i + 1) M0 M := by
  refine ⟨h.1, fun j hj => ?_⟩
  rw [h.2 j hj]
  congr 1
  by_cases hji : j = place + i
  · subst hji
    rcases hs with hs | hs
    · rw [show place + i - place = i by omega, hs]; simp
    · omega
  · rw [show decide (place ≤ j ∧ j < place + (i + 1)) = decide (place ≤ j ∧ j < place + i) from decide_eq_decide.2 (by omega)]
theorem flip_bit (c : UInt8) (p q : Nat) (hp : p < 8) (hq : q < 8) : (c ^^^ (UInt8.ofNat (2 ^ p))).toNat.testBit q = (c.toNat.testBit q != decide (q = p)) := by
  have h := byte_all (fun c => (List.range 8).all fun p => (List.range 8).all fun q => (c ^^^ (UInt8.ofNat (2 ^ p))).toNat.testBit q == (c.toNat.testBit q != decide (q = p))) (by decide +kernel) c
  exact eq_of_beq (List.all_eq_true.1 (List.all_eq_true.1 h p (List.mem_range.2 hp)) q (List.mem_range.2 hq))
theorem turned_flip {turn place i : Nat} {M0 M : List UInt8} (h : Turned turn place i M0 M) (ht : turn.testBit i = true) (hlt : place + i < 8 * M0.length) :
    Turned turn place (i + 1) M0 (M.set ((place + i) / 8) (M.getD ((place + i) / 8) 0 ^^^ UInt8.ofNat (2 ^ ((place + i) % 8)))) := by
  refine ⟨by rw [List.length_set]; exact h.1, fun j hj => ?_⟩
  have hold := h.2 j hj
  by_cases hji : j = place + i
  · subst hji
    rw [show decide (place ≤ place + i ∧ place + i < place + i) = false from decide_eq_false (by omega)] at hold
    rw [show decide (place ≤ place + i ∧ place + i < place + (i + 1)) = true from decide_eq_true (by omega), show place + i - place = i by omega, ht]
    unfold bitAt at hold ⊢
    rw [List.getD_eq_getElem?_getD, List.getElem?_set_self (by rw [h.1]; omega), Option.getD_some, flip_bit _ _ _ (Nat.mod_lt _ (by decide)) (Nat.mod_lt _ (by decide)), hold]
    simp
  · rw [show decide (place ≤ j ∧ j < place + (i + 1)) = decide (place ≤ j ∧ j < place + i) from decide_eq_decide.2 (by omega), ← hold]
    unfold bitAt
    by_cases hb : (place + i) / 8 = j / 8
    · rw [hb, List.getD_eq_getElem?_getD, List.getElem?_set_self (by rw [h.1]; omega), Option.getD_some, flip_bit _ _ _ (Nat.mod_lt _ (by decide)) (Nat.mod_lt _ (by decide))]
      rw [show decide (j % 8 = (place + i) % 8) = false from decide_eq_false (by omega)]
      simp
    · rw [List.getD_eq_getElem?_getD, List.getElem?_set_ne hb, ← List.getD_eq_getElem?_getD]
theorem bits_ext {M M' : List UInt8} (hl : M.length = M'.length) (h : ∀ j, j < 8 * M.length → bitAt M j = bitAt M' j) : M = M' := by
  apply List.ext_getElem hl
  intro i h1 h2
  apply UInt8.toNat_inj.1
  apply Nat.eq_of_testBit_eq
  intro q
  by_cases hq : q < 8
  · have := h (8 * i + q) (by omega)
    unfold bitAt at this
    rw [show (8 * i + q) / 8 = i by omega, show (8 * i + q) % 8 = q by omega, List.getD_eq_getElem?_getD, List.getD_eq_getElem?_getD, List.getElem?_eq_getElem h1, List.getElem?_eq_getElem h2] at this
    exact this
  · have a := UInt8.toNat_lt M[i]
    have b := UInt8.toNat_lt M'[i]
    have c : (2 : Nat) ^ 8 ≤ 2 ^ q := Nat.pow_le_pow_right (by decide) (by omega)
    rw [Nat.testBit_lt_two_pow (by omega), Nat.testBit_lt_two_pow (by omega)]
theorem turned_none {turn place n : Nat} {M0 M : List UInt8} (h : Turned turn place n M0 M) (hn : ∀ i, i < n → turn.testBit i = false ∨ 8 * M0.length ≤ place + i) : M = M0 := by
  refine bits_ext h.1 fun j hj => ?_
  rw [h.1] at hj
  rw [h.2 j hj]
  by_cases hw : place ≤ j ∧ j < place + n
  · have := hn (j - place) (by omega)
    rcases this with t | t
    · rw [t]; simp
    · omega
  · rw [decide_eq_false hw]; simp
theorem turned_some {turn place n i : Nat} {M0 M : List UInt8} (h : Turned turn place n M0 M) (hi : i < n) (ht : turn.testBit i = true) (hlt : place + i < 8 * M0.length) : M ≠ M0 := by
  rintro rfl
  have := h.2 (place + i) hlt
  rw [decide_eq_true (by omega), show place + i - place = i by omega, ht] at this
  simp at this

/-- A head and two bodies of one size that part by such a turning have unlike check sums. -/
theorem turned_crc {turn place : Nat} {H M0 M : List UInt8} (h : Turned turn place 32 M0 M) (hne : M ≠ M0) : crcOf (H ++ M) ≠ crcOf (H ++ M0) := by
  have hap : ∀ l : List UInt8, bitsAll (H ++ l) = bitsAll H ++ bitsAll l := fun l => by unfold bitsAll; rw [List.flatMap_append]
  have hll : (bitsAll M).length = (bitsAll M0).length := by rw [bitsAll_length, bitsAll_length, h.1]
  have hXY : bitsAll M ≠ bitsAll M0 := by
    intro he
    apply hne
    refine bits_ext h.1 fun j hj => ?_
    have h1 := bitsAll_get M j hj
    have h2 := bitsAll_get M0 j (by rw [← h.1]; exact hj)
    rw [he, h2] at h1
    exact (Option.some.inj h1).symm
  obtain ⟨A, W, W', Z, e1, e2, e3, e4, e5⟩ := windows hll place 32 (by decide) (fun j hj => by
    by_cases hl : j < 8 * M.length
    · have hl0 : j < 8 * M0.length := by rw [← h.1]; exact hl
      rw [bitsAll_get M j hl, bitsAll_get M0 j hl0, h.2 j hl0, decide_eq_false (by omega)]; simp
    · rw [List.getElem?_eq_none (by rw [bitsAll_length]; omega), List.getElem?_eq_none (by rw [bitsAll_length, ← h.1]; omega)]) hXY
  exact crc_window (A := bitsAll H ++ A) (W := W) (W' := W') (Z := Z) (by rw [hap, e1]; simp only [List.append_assoc]) (by rw [hap, e2]; simp only [List.append_assoc]) e3 e4 e5
end Go.Proofs.Ytjlohahknngmmaa.PureD
