/- Numbers in eight bytes; the padded text; the sum: plain. And Number, of the document. -/
import Derived.Test.YtililaifppblhaaShaP
import Derived.Test.YtililaifppblhaaPNx
import Derived.Test.YtililaifppblhaaRowB
namespace Go.Proofs.Ytililaifppblhaa.Sha
open Go Go.RowKit Go.Proofs.Ytililaifppblhaa Go.Proofs.YtililaifppblhaaW.PrintWords
set_option linter.unusedVariables false
set_option linter.unusedSimpArgs false

def b8 (n : Nat) : UInt8 := UInt8.ofNat n
theorem b8_nat (n : Nat) : (b8 n).toNat = n % 256 := by unfold b8; rw [UInt8.toNat_ofNat']
/-- A number, the highest byte first. -/
def numB (n : Nat) : List UInt8 := [b8 (n / 2 ^ 56), b8 (n / 2 ^ 48), b8 (n / 2 ^ 40), b8 (n / 2 ^ 32), b8 (n / 2 ^ 24), b8 (n / 2 ^ 16), b8 (n / 2 ^ 8), b8 n]
theorem ref_number_f (n : Int) : PN.atriumref04_Number.f 9 n = some (strOfNums [shr .u64 n 56 % 256, shr .u64 n 48 % 256, shr .u64 n 40 % 256, shr .u64 n 32 % 256, shr .u64 n 24 % 256, shr .u64 n 16 % 256, shr .u64 n 8 % 256, shr .u64 n 0 % 256]) := by kernel_rfl
theorem shr_u64 (n k : Nat) (hk : k < 64) : shr .u64 (n : Int) (k : Int) % 256 = ((b8 (n / 2 ^ k)).toNat : Int) := by
  rw [b8_nat]
  show (n : Int) / 2 ^ min ((k : Int)).toNat 64 % 256 = _
  rw [Int.toNat_natCast, Nat.min_eq_left (by omega)]
  rw [show (n : Int) / 2 ^ k = ((n / 2 ^ k : Nat) : Int) by rw [Int.natCast_ediv, Int.natCast_pow]; rfl]
  omega
theorem ref_number_n (n : Nat) : PN.atriumref04_Number.f 9 (n : Int) = some ⟨(numB n).toArray⟩ := by
  rw [ref_number_f, ← row_str]
  have e := fun k hk => shr_u64 n k hk
  have h0 := e 0 (by omega)
  have h1 := e 8 (by omega)
  have h2 := e 16 (by omega)
  have h3 := e 24 (by omega)
  have h4 := e 32 (by omega)
  have h5 := e 40 (by omega)
  have h6 := e 48 (by omega)
  have h7 := e 56 (by omega)
  rw [Nat.pow_zero, Nat.div_one] at h0
  simp only [numB, List.map_cons, List.map_nil, ← h0, ← h1, ← h2, ← h3, ← h4, ← h5, ← h6, ← h7]
  rfl

/-! ### The padded text and the sum -/
def padN (n : Nat) : Nat := (119 - n % 64) % 64
theorem padN_lt (n : Nat) : padN n < 64 := Nat.mod_lt _ (by omega)
theorem padN_at (n : Nat) : (n + 1 + padN n) % 64 = 56 := by unfold padN; omega
theorem padN_before (n j : Nat) (h : j < padN n) : (n + 1 + j) % 64 ≠ 56 := by unfold padN at h; omega
def tailB (n : Nat) : List UInt8 := 128 :: List.replicate (padN n) 0 ++ numB ((8 * n) % 18446744073709551616)
def padded (msg : List UInt8) : List UInt8 := msg ++ tailB msg.length
theorem tailB_len (n : Nat) : (tailB n).length = padN n + 9 := by simp [tailB, numB]
theorem padded_len (msg : List UInt8) : (padded msg).length = msg.length + padN msg.length + 9 := by
  unfold padded
  rw [List.length_append, tailB_len]; omega
theorem padded_mod (msg : List UInt8) : (padded msg).length % 64 = 0 := by
  have := padN_at msg.length
  rw [padded_len]; omega
/-- Blocks one behind the other. -/
def foldB : Nat → S8 → List UInt8 → S8
  | 0, s, _ => s
  | k + 1, s, l => foldB k (blockV s (l.take 64)) (l.drop 64)
def first8 : S8 := ⟨0x6a09e667, 0xbb67ae85, 0x3c6ef372, 0xa54ff53a, 0x510e527f, 0x9b05688c, 0x1f83d9ab, 0x5be0cd19⟩
def wordB (x : V) : List UInt8 := [b8 (x.toNat / 2 ^ 24), b8 (x.toNat / 2 ^ 16), b8 (x.toNat / 2 ^ 8), b8 x.toNat]
def outB (s : S8) : List UInt8 := s.l.flatMap wordB
def sumV (msg : List UInt8) : List UInt8 := outB (foldB ((padded msg).length / 64) first8 (padded msg))
theorem outB_len (s : S8) : (outB s).length = 32 := rfl
theorem sumV_len (msg : List UInt8) : (sumV msg).length = 32 := outB_len _
theorem foldB_snoc : ∀ (k : Nat) (s : S8) (l : List UInt8), foldB (k + 1) s l = blockV (foldB k s l) ((l.drop (64 * k)).take 64)
  | 0, s, l => by simp [foldB]
  | k + 1, s, l => by
    rw [foldB, foldB_snoc k, List.drop_drop]
    rw [show foldB (k + 1) s l = foldB k (blockV s (l.take 64)) (l.drop 64) from rfl, show 64 + 64 * k = 64 * (k + 1) by omega]
end Go.Proofs.Ytililaifppblhaa.Sha
