/- The check sum tells apart two texts whose bits part within a window of 32: plain, no program. -/
import Derived.Test.YtjlohahknngmmaaCdM
namespace Go.Proofs.Ytjlohahknngmmaa.PureQ
set_option linter.unusedVariables false
open Go Go.RowKit Go.Proofs.Ytjlohahknngmmaa Go.Proofs.YtjlohahknngmmaaW.PrintWords Go.Proofs.YtjlohahknngmmaaW.PrintLast

abbrev V := BitVec 32
def pol : V := 0x82f63b78#32
/-- One turn. -/
def T (x : V) : V := if x.getLsbD 0 then (x >>> 1) ^^^ pol else x >>> 1
theorem T_zero : T 0#32 = 0#32 := by decide
theorem T_xor (x y : V) : T (x ^^^ y) = T x ^^^ T y := by
  unfold T
  rw [BitVec.getLsbD_xor, BitVec.ushiftRight_xor_distrib]
  have a1 : ∀ a b p : V, a ^^^ b ^^^ p = a ^^^ (b ^^^ p) := fun a b p => BitVec.xor_assoc a b p
  have a2 : ∀ a b p : V, a ^^^ b ^^^ p = a ^^^ p ^^^ b := fun a b p => by rw [BitVec.xor_assoc, BitVec.xor_comm b p, ← BitVec.xor_assoc]
  have a3 : ∀ a b p : V, a ^^^ b = a ^^^ p ^^^ (b ^^^ p) := fun a b p => by rw [BitVec.xor_assoc, BitVec.xor_comm b p, ← BitVec.xor_assoc p, BitVec.xor_self, BitVec.zero_xor]
  cases x.getLsbD 0 <;> cases y.getLsbD 0
  · rfl
  · exact a1 _ _ _
  · exact a2 _ _ _
  · exact a3 _ _ _
theorem T_kernel (z : V) (h : T z = 0#32) : z = 0#32 := by
  unfold T at h
  cases hz : z.getLsbD 0 with
  | true =>
    rw [hz, if_pos rfl] at h
    have h2 : z >>> 1 = pol := by
      have := congrArg (· ^^^ pol) h
      simpa [BitVec.xor_assoc] using this
    have h3 := congrArg (fun v : V => v.getLsbD 31) h2
    simp [pol] at h3
  | false =>
    rw [hz, if_neg (by decide)] at h
    apply BitVec.eq_of_getLsbD_eq
    intro i hi
    rcases Nat.eq_zero_or_pos i with rfl | hp
    · simpa using hz
    · have h3 := congrArg (fun v : V => v.getLsbD (i - 1)) h
      simp at h3
      rw [Nat.add_sub_cancel' hp] at h3
      simpa using h3
theorem T_inj {x y : V} (h : T x = T y) : x = y := by
  have h2 : T (x ^^^ y) = 0#32 := by rw [T_xor, h, BitVec.xor_self]
  have h3 := congrArg (· ^^^ y) (T_kernel _ h2)
  simpa [BitVec.xor_assoc] using h3

def b1 (b : Bool) : V := if b then 1#32 else 0#32
/-- A bit more. -/
def g (x : V) (b : Bool) : V := T (x ^^^ b1 b)
theorem g_inj {x y : V} {b : Bool} (h : g x b = g y b) : x = y := by
  have h3 := congrArg (· ^^^ b1 b) (T_inj h)
  simpa [BitVec.xor_assoc] using h3
theorem fold_inj : ∀ (l : List Bool) {x y : V}, l.foldl g x = l.foldl g y → x = y
  | [], _, _, h => h
  | b :: l, _, _, h => g_inj (fold_inj l h)
def Tn : Nat → V → V
  | 0, x => x
  | n + 1, x => Tn n (T x)
theorem Tn_inj : ∀ (n : Nat) {x y : V}, Tn n x = Tn n y → x = y
  | 0, _, _, h => h
  | n + 1, _, _, h => T_inj (Tn_inj n h)
def word : List Bool → Nat
  | [] => 0
  | b :: l => (if b then 1 else 0) + 2 * word l
theorem word_lt : ∀ l : List Bool, word l < 2 ^ l.length
  | [] => by simp [word]
  | b :: l => by
    have := word_lt l
    simp only [word, List.length_cons, Nat.pow_succ]
    split <;> omega
theorem word_inj : ∀ (l m : List Bool), l.length = m.length → word l = word m → l = m
  | [], [], _, _ => rfl
  | [], _ :: _, h, _ => by simp at h
  | _ :: _, [], h, _ => by simp at h
  | b :: l, c :: m, h, hw => by
    simp only [word] at hw
    have h2 : word l = word m := by cases b <;> cases c <;> simp at hw <;> omega
    have h3 := word_inj l m (by simpa using h) h2
    subst h3
    congr 1
    cases b <;> cases c <;> simp at hw <;> rfl
/-- A shift to the left is undone by a turn. -/
theorem T_shl (w : Nat) (h : w < 2 ^ 31) : T (BitVec.ofNat 32 (2 * w)) = BitVec.ofNat 32 w := by
  have h0 : (BitVec.ofNat 32 (2 * w)).getLsbD 0 = false := by
    rw [BitVec.getLsbD_ofNat]; simp
  unfold T
  rw [h0, if_neg (by decide)]
  apply BitVec.eq_of_toNat_eq
  rw [BitVec.toNat_ushiftRight, BitVec.toNat_ofNat, BitVec.toNat_ofNat, Nat.mod_eq_of_lt (by omega), Nat.mod_eq_of_lt (by omega), Nat.shiftRight_succ, Nat.shiftRight_zero]
  omega
theorem word_xor (b : Bool) (w : Nat) (h : w < 2 ^ 31) : BitVec.ofNat 32 ((if b then 1 else 0) + 2 * w) = b1 b ^^^ BitVec.ofNat 32 (2 * w) := by
  apply BitVec.eq_of_toNat_eq
  rw [BitVec.toNat_xor]
  cases b with
  | false => simp [b1]
  | true =>
    simp only [b1, if_true]
    rw [BitVec.toNat_ofNat, BitVec.toNat_ofNat (w := 32) (2 * w), Nat.mod_eq_of_lt (by omega), Nat.mod_eq_of_lt (by omega)]
    show 1 + 2 * w = 1 ^^^ (2 * w)
    have h1 : (2 * w) ^^^ 1 = 2 * w + 1 := by
      have := Nat.two_pow_add_eq_or_of_lt (i := 1) (b := 1) (by decide) w
      apply Nat.eq_of_testBit_eq
      intro i
      rw [Nat.testBit_xor]
      cases i with
      | zero => simp [Nat.testBit_zero]
      | succ i =>
        rw [Nat.testBit_succ, Nat.testBit_succ, Nat.testBit_succ]
        rw [show 2 * w / 2 = w by omega, show (2 * w + 1) / 2 = w by omega, show 1 / 2 = 0 from rfl, Nat.zero_testBit, Bool.xor_false]
    rw [Nat.xor_comm, h1]
    omega
/-- Up to 32 bits at once. -/
theorem fold_word : ∀ (l : List Bool) (x : V), l.length ≤ 32 → l.foldl g x = Tn l.length (x ^^^ BitVec.ofNat 32 (word l))
  | [], x, _ => by simp [word, Tn]
  | b :: l, x, h => by
    have hl : l.length ≤ 31 := by simpa using h
    have hw : word l < 2 ^ 31 := Nat.lt_of_lt_of_le (word_lt l) (Nat.pow_le_pow_right (by decide) hl)
    rw [List.foldl_cons, fold_word l _ (by omega)]
    show Tn l.length (T (x ^^^ b1 b) ^^^ _) = Tn l.length (T _)
    congr 1
    rw [← T_shl (word l) hw, ← T_xor, word, word_xor b _ hw, BitVec.xor_assoc]
theorem window {A W W' Z : List Bool} (x : V) (h : W.length = W'.length) (h32 : W.length ≤ 32) (hne : W ≠ W') : (A ++ W ++ Z).foldl g x ≠ (A ++ W' ++ Z).foldl g x := by
  intro he
  rw [List.foldl_append, List.foldl_append, List.foldl_append, List.foldl_append] at he
  have h1 := fold_inj Z he
  rw [fold_word W _ h32, fold_word W' _ (by omega), h] at h1
  have h2 := Tn_inj _ h1
  have h3 := congrArg ((A.foldl g x) ^^^ ·) h2
  simp only [← BitVec.xor_assoc, BitVec.xor_self, BitVec.zero_xor] at h3
  have h4 := congrArg BitVec.toNat h3
  have a1 : word W < 2 ^ 32 := Nat.lt_of_lt_of_le (word_lt W) (Nat.pow_le_pow_right (by decide) h32)
  have a2 : word W' < 2 ^ 32 := Nat.lt_of_lt_of_le (word_lt W') (Nat.pow_le_pow_right (by decide) (by omega))
  rw [BitVec.toNat_ofNat, BitVec.toNat_ofNat, Nat.mod_eq_of_lt a1, Nat.mod_eq_of_lt a2] at h4
  exact hne (word_inj W W' h h4)

/-! ### The program's numbers -/
theorem xorV (x y : V) : Go.bits .xor .u32 (x.toNat : Int) (y.toNat : Int) = ((x ^^^ y).toNat : Int) := by
  show IntKind.u32.wrap ((BitVec.ofInt 32 (x.toNat : Int) ^^^ BitVec.ofInt 32 (y.toNat : Int)).toNat : Int) = _
  rw [bv_nat, bv_nat, BitVec.ofNat_toNat, BitVec.ofNat_toNat, BitVec.setWidth_eq, BitVec.setWidth_eq]
  have := (x ^^^ y).isLt
  exact u32w (by omega) (by omega)
theorem stepV (x : V) : stepR (x.toNat : Int) = ((T x).toNat : Int) := by
  have hx := x.isLt
  have hb : x.getLsbD 0 = decide (x.toNat % 2 = 1) := by rw [BitVec.getLsbD, Nat.testBit_zero]
  have hs : (x >>> 1).toNat = x.toNat / 2 := by rw [BitVec.toNat_ushiftRight, Nat.shiftRight_succ, Nat.shiftRight_zero]
  unfold stepR T
  rw [hb]
  by_cases h : x.toNat % 2 = 1
  · rw [if_pos (by omega), if_pos (by simpa using h)]
    have := xorV (x >>> 1) pol
    rw [hs] at this
    rw [← this, show (pol.toNat : Int) = 2197175160 from rfl]
    congr 1
  · rw [if_neg (by omega), if_neg (by simpa using h), hs]
    omega
theorem stepsV : ∀ (n : Nat) (x : V), steps n (x.toNat : Int) = ((Tn n x).toNat : Int)
  | 0, x => rfl
  | n + 1, x => by rw [steps, stepV, stepsV n]; rfl
/-- A byte's bits, the lowest first. -/
def bits8 (c : UInt8) : List Bool := (List.range 8).map fun i => c.toNat.testBit i
theorem word8 (c : UInt8) : word (bits8 c) = c.toNat := by
  have h := byte_all (fun c => decide (word (bits8 c) = c.toNat)) (by decide +kernel) c
  exact of_decide_eq_true h
theorem crcV (x : V) (c : UInt8) : crcByte (x.toNat : Int) c = (((bits8 c).foldl g x).toNat : Int) := by
  unfold crcByte
  have hc := c.toNat_lt
  have e : ((BitVec.ofNat 32 c.toNat : V).toNat : Int) = (c.toNat : Int) := by rw [BitVec.toNat_ofNat, Nat.mod_eq_of_lt (by omega)]
  rw [← e, xorV, stepsV, fold_word _ _ (by simp [bits8]), word8]
  simp [bits8]
def bitsAll (l : List UInt8) : List Bool := l.flatMap bits8
theorem foldV : ∀ (l : List UInt8) (x : V), l.foldl crcByte (x.toNat : Int) = (((bitsAll l).foldl g x).toNat : Int)
  | [], x => rfl
  | c :: l, x => by
    rw [List.foldl_cons, crcV, foldV l]
    unfold bitsAll
    rw [List.flatMap_cons, List.foldl_append]
theorem crcOf_inj {l m : List UInt8} (h : crcOf l = crcOf m) : (bitsAll l).foldl g 0xffffffff#32 = (bitsAll m).foldl g 0xffffffff#32 := by
  unfold crcOf at h
  rw [show (4294967295 : Int) = ((0xffffffff#32 : V).toNat : Int) from rfl, foldV, foldV, xorV, xorV] at h
  have h2 : _ = _ := BitVec.eq_of_toNat_eq (Int.ofNat_inj.1 h)
  have h3 := congrArg (· ^^^ (0xffffffff#32 : V)) h2
  simpa [BitVec.xor_assoc] using h3
theorem crc_window {l m : List UInt8} {A W W' Z : List Bool} (hl : bitsAll l = A ++ W ++ Z) (hm : bitsAll m = A ++ W' ++ Z) (h : W.length = W'.length) (h32 : W.length ≤ 32) (hne : W ≠ W') : crcOf l ≠ crcOf m := by
  intro he
  have := crcOf_inj he
  rw [hl, hm] at this
  exact window _ h h32 hne this
end Go.Proofs.Ytjlohahknngmmaa.PureQ
