/- The check sum as a plain function of the bytes; no program. -/
import Derived.Test.YtjlohahknngmmaaPk
import Derived.Test.YtjlohahknngmmaaWLast
namespace Go.Proofs.Ytjlohahknngmmaa.PureQ
set_option linter.unusedVariables false
open Go Go.RowKit Go.Proofs.Ytjlohahknngmmaa Go.Proofs.YtjlohahknngmmaaW.PrintWords Go.Proofs.YtjlohahknngmmaaW.PrintLast

def stepR (x : Int) : Int := if x % 2 = 1 then Go.bits .xor .u32 (x / 2) 2197175160 else x / 2
def steps : Nat → Int → Int
  | 0, x => x
  | n + 1, x => steps n (stepR x)
def crcByte (x : Int) (c : UInt8) : Int := steps 8 (Go.bits .xor .u32 x (c.toNat : Int))
def crcOf (l : List UInt8) : Int := Go.bits .xor .u32 (l.foldl crcByte 4294967295) 4294967295

theorem xor_range (x y : Int) : 0 ≤ Go.bits .xor .u32 x y ∧ Go.bits .xor .u32 x y < 4294967296 := by
  show 0 ≤ IntKind.u32.wrap _ ∧ IntKind.u32.wrap _ < _
  have h : ∀ z : Int, 0 ≤ IntKind.u32.wrap z ∧ IntKind.u32.wrap z < 4294967296 := fun z => by
    show 0 ≤ z % 4294967296 ∧ z % 4294967296 < 4294967296
    omega
  exact h _
theorem xor_comm (x y : Int) : Go.bits .xor .u32 x y = Go.bits .xor .u32 y x := by
  show IntKind.u32.wrap ((BitVec.ofInt 32 x ^^^ BitVec.ofInt 32 y).toNat : Int) = IntKind.u32.wrap ((BitVec.ofInt 32 y ^^^ BitVec.ofInt 32 x).toNat : Int)
  rw [BitVec.xor_comm]
theorem xor_zero (x : Int) (h : 0 ≤ x) (h' : x < 4294967296) : Go.bits .xor .u32 x 0 = x := by
  show IntKind.u32.wrap ((BitVec.ofInt 32 x ^^^ BitVec.ofInt 32 0).toNat : Int) = x
  obtain ⟨n, rfl⟩ := Int.eq_ofNat_of_zero_le h
  rw [show (0 : Int) = ((0 : Nat) : Int) from rfl, bv_nat, bv_nat, BitVec.toNat_xor, BitVec.toNat_ofNat, BitVec.toNat_ofNat, Nat.mod_eq_of_lt (by omega), Nat.zero_mod, Nat.xor_zero]
  exact u32w (by omega) (by omega)
theorem and_one (x : Int) (h : 0 ≤ x) (h' : x < 4294967296) : Go.bits .and .u32 x 1 = x % 2 := by
  show IntKind.u32.wrap ((BitVec.ofInt 32 x &&& BitVec.ofInt 32 1).toNat : Int) = x % 2
  obtain ⟨n, rfl⟩ := Int.eq_ofNat_of_zero_le h
  rw [show (1 : Int) = ((1 : Nat) : Int) from rfl, bv_nat, bv_nat, BitVec.toNat_and, BitVec.toNat_ofNat, BitVec.toNat_ofNat, Nat.mod_eq_of_lt (by omega), show 1 % 2 ^ 32 = 1 from rfl, Nat.and_one_is_mod]
  exact u32w (by omega) (by omega)
theorem stepC (x : Int) (h : 0 ≤ x) (h' : x < 4294967296) : Go.bits .xor .u32 (x / 2) (Go.bits .and .u32 2197175160 ((-(Go.bits .and .u32 x 1)) % 4294967296)) = stepR x := by
  rw [and_one x h h']
  unfold stepR
  by_cases hp : x % 2 = 1
  · rw [if_pos hp, hp]
    rw [show Go.bits .and .u32 2197175160 (-1 % 4294967296) = 2197175160 by decide +kernel]
  · rw [if_neg hp, show x % 2 = 0 by omega, show Go.bits .and .u32 2197175160 (-0 % 4294967296) = 0 by decide +kernel]
    exact xor_zero _ (by omega) (by omega)
theorem stepR_range (x : Int) (h : 0 ≤ x) (h' : x < 4294967296) : 0 ≤ stepR x ∧ stepR x < 4294967296 := by
  unfold stepR
  split
  · exact xor_range _ _
  · omega

theorem steps_range (n : Nat) : ∀ x : Int, 0 ≤ x → x < 4294967296 → 0 ≤ steps n x ∧ steps n x < 4294967296 := by
  induction n with
  | zero => exact fun x h h' => ⟨h, h'⟩
  | succ n ih => exact fun x h h' => ih _ (stepR_range x h h').1 (stepR_range x h h').2

theorem fold_range (l : List UInt8) : ∀ x : Int, 0 ≤ x → x < 4294967296 → 0 ≤ l.foldl crcByte x ∧ l.foldl crcByte x < 4294967296 := by
  induction l with
  | nil => exact fun x h h' => ⟨h, h'⟩
  | cons c l ih => exact fun x h h' => ih _ (steps_range 8 _ (xor_range _ _).1 (xor_range _ _).2).1 (steps_range 8 _ (xor_range _ _).1 (xor_range _ _).2).2

theorem crc_range (l : List UInt8) : 0 ≤ crcOf l ∧ crcOf l < 4294967296 := xor_range _ _
end Go.Proofs.Ytjlohahknngmmaa.PureQ
