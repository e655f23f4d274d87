/- SHA-256 over words of 32 bits: plain; the walks' numbers in these words. -/
import Derived.Test.YtililaifppblhaaPRx
namespace Go.Proofs.Ytililaifppblhaa.Sha
open Go Go.RowKit Go.Proofs.YtililaifppblhaaW.PrintWords
set_option linter.unusedVariables false

abbrev V := BitVec 32
abbrev iv (x : V) : Int := (x.toNat : Int)
def rorV (x : V) (n : Nat) : V := (x <<< (32 - n)) ||| (x >>> n)
/-- A byte as a word. -/
def cV (c : UInt8) : V := BitVec.ofNat 32 c.toNat
theorem cV_nat (c : UInt8) : (cV c).toNat = c.toNat := by
  have := c.toNat_lt
  unfold cV
  rw [BitVec.toNat_ofNat, Nat.mod_eq_of_lt (by omega)]

theorem wrapU (n : Nat) : IntKind.u32.wrap (n : Int) = ((n % 4294967296 : Nat) : Int) := by
  show (n : Int) % 4294967296 = _
  omega
theorem addV (x y : V) : IntKind.u32.wrap ((x.toNat : Int) + (y.toNat : Int)) = ((x + y).toNat : Int) := by
  rw [show (x.toNat : Int) + (y.toNat : Int) = ((x.toNat + y.toNat : Nat) : Int) by omega, wrapU, BitVec.toNat_add]
theorem bvV (x : V) : BitVec.ofInt 32 (x.toNat : Int) = x := by
  apply BitVec.eq_of_toInt_eq
  rw [BitVec.toInt_ofInt, BitVec.toInt_eq_toNat_bmod]
theorem wrapV (x : V) : IntKind.u32.wrap (x.toNat : Int) = (x.toNat : Int) := by
  have := x.isLt
  rw [wrapU, Nat.mod_eq_of_lt (by omega)]
theorem xorV (x y : V) : Go.bits .xor .u32 (x.toNat : Int) (y.toNat : Int) = ((x ^^^ y).toNat : Int) := by
  show IntKind.u32.wrap ((BitVec.ofInt 32 (x.toNat : Int) ^^^ BitVec.ofInt 32 (y.toNat : Int)).toNat : Int) = _
  rw [bvV, bvV, wrapV]
theorem andV (x y : V) : Go.bits .and .u32 (x.toNat : Int) (y.toNat : Int) = ((x &&& y).toNat : Int) := by
  show IntKind.u32.wrap ((BitVec.ofInt 32 (x.toNat : Int) &&& BitVec.ofInt 32 (y.toNat : Int)).toNat : Int) = _
  rw [bvV, bvV, wrapV]
theorem orV (x y : V) : Go.bits .or .u32 (x.toNat : Int) (y.toNat : Int) = ((x ||| y).toNat : Int) := by
  show IntKind.u32.wrap ((BitVec.ofInt 32 (x.toNat : Int) ||| BitVec.ofInt 32 (y.toNat : Int)).toNat : Int) = _
  rw [bvV, bvV, wrapV]
theorem shrV (x : V) (n : Nat) : (x.toNat : Int) / 2 ^ n = ((x >>> n).toNat : Int) := by
  rw [BitVec.toNat_ushiftRight, Nat.shiftRight_eq_div_pow, Int.natCast_ediv, Int.natCast_pow]; rfl
theorem shlV (x : V) (n : Nat) : IntKind.u32.wrap ((x.toNat : Int) * 2 ^ n) = ((x <<< n).toNat : Int) := by
  rw [show (x.toNat : Int) * 2 ^ n = ((x.toNat * 2 ^ n : Nat) : Int) by rw [Int.natCast_mul, Int.natCast_pow]; rfl, wrapU, BitVec.toNat_shiftLeft, Nat.shiftLeft_eq]
theorem notV (x : V) : IntKind.u32.wrap (-1 - (x.toNat : Int)) = ((~~~ x).toNat : Int) := by
  have := x.isLt
  rw [BitVec.toNat_not]
  show (-1 - (x.toNat : Int)) % 4294967296 = _
  omega

theorem shr_f (x : V) (n : Int) (h : 0 ≤ n) (h2 : n ≤ 32) : shr .u32 (x.toNat : Int) n = ((x >>> n.toNat).toNat : Int) := by
  rw [← shr_small rfl h2, shrV]
theorem shl_f (x : V) (n : Int) (h : 0 ≤ n) (h2 : n ≤ 32) : shl .u32 (x.toNat : Int) n = ((x <<< n.toNat).toNat : Int) := by
  rw [← shl_small rfl h2, shlV]
def ks : List Nat := [2, 3, 6, 7, 10, 11, 13, 17, 18, 19, 22, 25]
theorem ks_all (P : Nat → Prop) (h : ∀ n, n ∈ ks → P n) (n : Nat) (hn : n ∈ ks) : P n := h n hn
theorem mac_ror_f (x : V) (n : Nat) (hn : n ∈ ks) : PR.mac_ror.f (x.toNat : Int) (n : Int) = some ((rorV x n).toNat : Int) := by
  have hk : Go.bits .and .u64 (IntKind.u64.wrap (wrap64 (-(n : Int)))) 31 = ((32 - n : Nat) : Int) ∧ IntKind.u64.wrap (32 - ((32 - n : Nat) : Int)) = (n : Int) ∧ n ≤ 32 := by
    revert n; decide +kernel
  obtain ⟨h1, h2, h3⟩ := hk
  unfold PR.mac_ror.f PR.bits_RotateLeft32.f
  rw [h1, h2, if_pos (by omega), if_pos (by omega), shl_f _ _ (by omega) (by omega), shr_f _ _ (by omega) (by omega), orV]
  rfl
theorem ref_ror_f (x : V) (n : Nat) (hn : n ∈ ks) : PR.atriumref04_ror.f (x.toNat : Int) (n : Int) = some ((rorV x n).toNat : Int) := by
  have hk : wrap64 (32 - (n : Int)) = ((32 - n : Nat) : Int) ∧ n ≤ 32 := by
    revert n; decide +kernel
  obtain ⟨h1, h3⟩ := hk
  unfold PR.atriumref04_ror.f
  rw [h1, if_pos (by omega), if_pos (by omega), shl_f _ _ (by omega) (by omega), shr_f _ _ (by omega) (by omega), orV, BitVec.or_comm]
  rfl

/-! ### The sum -/
def wordV (b : List UInt8) (i : Nat) : V := (cV (b.getD (4 * i) 0) <<< 24) ||| (cV (b.getD (4 * i + 1) 0) <<< 16) ||| (cV (b.getD (4 * i + 2) 0) <<< 8) ||| cV (b.getD (4 * i + 3) 0)
def s0 (x : V) : V := rorV x 17 ^^^ rorV x 19 ^^^ (x >>> 10)
def s1 (y : V) : V := rorV y 7 ^^^ rorV y 18 ^^^ (y >>> 3)
def nextV (w : List V) (t : Nat) : V := s0 (w.getD (t - 2) 0) + w.getD (t - 7) 0 + s1 (w.getD (t - 15) 0) + w.getD (t - 16) 0
def fillW (b : List UInt8) : Nat → List V
  | 0 => List.replicate 64 0
  | i + 1 => (fillW b i).set i (wordV b i)
def schedW (b : List UInt8) : Nat → List V
  | 0 => fillW b 16
  | j + 1 => (schedW b j).set (j + 16) (nextV (schedW b j) (j + 16))
def kV : List V := [0x428a2f98, 0x71374491, 0xb5c0fbcf, 0xe9b5dba5, 0x3956c25b, 0x59f111f1, 0x923f82a4, 0xab1c5ed5,
  0xd807aa98, 0x12835b01, 0x243185be, 0x550c7dc3, 0x72be5d74, 0x80deb1fe, 0x9bdc06a7, 0xc19bf174,
  0xe49b69c1, 0xefbe4786, 0x0fc19dc6, 0x240ca1cc, 0x2de92c6f, 0x4a7484aa, 0x5cb0a9dc, 0x76f988da,
  0x983e5152, 0xa831c66d, 0xb00327c8, 0xbf597fc7, 0xc6e00bf3, 0xd5a79147, 0x06ca6351, 0x14292967,
  0x27b70a85, 0x2e1b2138, 0x4d2c6dfc, 0x53380d13, 0x650a7354, 0x766a0abb, 0x81c2c92e, 0x92722c85,
  0xa2bfe8a1, 0xa81a664b, 0xc24b8b70, 0xc76c51a3, 0xd192e819, 0xd6990624, 0xf40e3585, 0x106aa070,
  0x19a4c116, 0x1e376c08, 0x2748774c, 0x34b0bcb5, 0x391c0cb3, 0x4ed8aa4a, 0x5b9cca4f, 0x682e6ff3,
  0x748f82ee, 0x78a5636f, 0x84c87814, 0x8cc70208, 0x90befffa, 0xa4506ceb, 0xbef9a3f7, 0xc67178f2]
def firstV : List V := [0x6a09e667, 0xbb67ae85, 0x3c6ef372, 0xa54ff53a, 0x510e527f, 0x9b05688c, 0x1f83d9ab, 0x5be0cd19]
structure S8 where (a b c d e f g h : V)
def S8.l (s : S8) : List V := [s.a, s.b, s.c, s.d, s.e, s.f, s.g, s.h]
def oneV (k w : V) (v : S8) : V := v.h + (rorV v.e 6 ^^^ rorV v.e 11 ^^^ rorV v.e 25) + ((v.e &&& v.f) ^^^ (~~~ v.e &&& v.g)) + k + w
def twoV (v : S8) : V := (rorV v.a 2 ^^^ rorV v.a 13 ^^^ rorV v.a 22) + ((v.a &&& v.b) ^^^ (v.a &&& v.c) ^^^ (v.b &&& v.c))
def roundV (k w : V) (v : S8) : S8 := ⟨oneV k w v + twoV v, v.a, v.b, v.c, v.d + oneV k w v, v.e, v.f, v.g⟩
def roundsV (w : List V) (v : S8) : Nat → S8
  | 0 => v
  | t + 1 => roundV (kV.getD t 0) (w.getD t 0) (roundsV w v t)
def S8.add (x y : S8) : S8 := ⟨x.a + y.a, x.b + y.b, x.c + y.c, x.d + y.d, x.e + y.e, x.f + y.f, x.g + y.g, x.h + y.h⟩
def blockV (s : S8) (b : List UInt8) : S8 := s.add (roundsV (schedW b 48) s 64)

/-! ### Cells -/
def cvs (l : List V) : Array Value := (l.map fun x => Value.int .u32 (x.toNat : Int)).toArray
theorem cvs_size (l : List V) : (cvs l).size = l.length := by simp [cvs]
theorem cvs_get (l : List V) (i : Nat) (h : i < l.length) : (cvs l)[i]? = some (.int .u32 ((l.getD i 0).toNat : Int)) := by
  simp [cvs, List.getElem?_eq_getElem h]
theorem cvs_set (l : List V) (i : Nat) (x : V) : (cvs l).setIfInBounds i (.int .u32 (x.toNat : Int)) = cvs (l.set i x) := by
  apply Array.ext'
  simp [cvs]
end Go.Proofs.Ytililaifppblhaa.Sha
