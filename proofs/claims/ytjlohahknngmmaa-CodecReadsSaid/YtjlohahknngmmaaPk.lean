/- Small laws for the pure side: bytes, wraps, rounds. -/
import Derived.Test.YtjlohahknngmmaaWWords
import Derived.IntWalk
namespace Go.Proofs.Ytjlohahknngmmaa
open Go Go.RowKit Go.Proofs.YtjlohahknngmmaaW.PrintWords
set_option linter.unusedVariables false

theorem bt_nat (s : ByteArray) (k : Nat) (h : k < s.size) : bt s (k : Int) = ((s[k]'h).toNat : Int) := by
  unfold bt
  rw [dif_pos (by simpa using h)]
  rfl
theorem bt_nat' (s : ByteArray) (k : Nat) (h : k < s.size) : ∃ b : UInt8, bt s (k : Int) = (b.toNat : Int) ∧ s.data.toList.take (k + 1) = s.data.toList.take k ++ [b] ∧ b = s[k]'h := by
  refine ⟨s[k]'h, bt_nat s k h, ?_, rfl⟩
  rw [List.take_succ_eq_append_getElem (by simpa using h)]; rfl

theorem wrap64_id {x : Int} (h : -9223372036854775808 ≤ x) (h' : x ≤ 9223372036854775807) : wrap64 x = x := by unfold wrap64; omega
theorem wrap64_nat {n : Nat} (h : n ≤ 9223372036854775807) : wrap64 (n : Int) = (n : Int) := wrap64_id (by omega) (by omega)
theorem wrap64_succ {n : Nat} (h : n < 9223372036854775807) : wrap64 ((n : Int) + 1) = ((n + 1 : Nat) : Int) := by rw [wrap64_id (by omega) (by omega)]; rfl
theorem wrap32_id {x : Int} (h : -2147483648 ≤ x) (h' : x ≤ 2147483647) : wrap32 x = x := by unfold wrap32; omega

theorem toList_inj {a b : ByteArray} : a.toList = b.toList ↔ a = b := by
  rw [ByteArray.toList_eq, ByteArray.toList_eq]
  constructor
  · intro h; cases a; cases b; simp at h; rw [h]
  · intro h; rw [h]
theorem data_inj {a b : ByteArray} (h : a.data.toList = b.data.toList) : a = b := by cases a; cases b; simp at h; rw [h]

/-- A callee without rounds whose answer is known. -/
theorem evBindc {α β : Type} {x : Option α} {f : Nat → α → Option β} {a : α} {r : β} (h : x = some a) (k : Ev (fun n => f n a) r) : Ev (fun n => x.bind (f n)) r := by
  subst h
  exact k
theorem evIfPos {α : Type} {c : Prop} [Decidable c] {f g : Nat → Option α} {r : α} (h : c) (k : Ev f r) : Ev (fun n => if c then f n else g n) r := by
  obtain ⟨K, k⟩ := k
  exact ⟨K, fun n hn => by simp only [if_pos h]; exact k n hn⟩
theorem evIfNeg {α : Type} {c : Prop} [Decidable c] {f g : Nat → Option α} {r : α} (h : ¬ c) (k : Ev g r) : Ev (fun n => if c then f n else g n) r := by
  obtain ⟨K, k⟩ := k
  exact ⟨K, fun n hn => by simp only [if_neg h]; exact k n hn⟩

/-- A fact on every byte, asked of each by the kernel. -/
theorem byte_all (p : UInt8 → Bool) (h : (List.range 256).all (fun n => p (UInt8.ofNat n)) = true) (c : UInt8) : p c = true := by
  have h1 := List.all_eq_true.1 h c.toNat (List.mem_range.2 c.toNat_lt)
  rwa [UInt8.ofNat_toNat] at h1

theorem u64w {x : Int} (h : 0 ≤ x) (h' : x < 18446744073709551616) : IntKind.u64.wrap x = x := by
  show x % 18446744073709551616 = x
  omega
theorem u32w {x : Int} (h : 0 ≤ x) (h' : x < 4294967296) : IntKind.u32.wrap x = x := by
  show x % 4294967296 = x
  omega

theorem bv_nat (m : Nat) (x : Nat) : BitVec.ofInt m (x : Int) = BitVec.ofNat m x := by
  apply BitVec.eq_of_toNat_eq
  rw [BitVec.toNat_ofInt, BitVec.toNat_ofNat]
  omega

theorem bits_or64 (x y : Nat) (hx : x < 18446744073709551616) (hy : y < 18446744073709551616) : Go.bits .or .u64 (x : Int) (y : Int) = ((x ||| y : Nat) : Int) := by
  show IntKind.u64.wrap ((BitVec.ofInt 64 (x : Int) ||| BitVec.ofInt 64 (y : Int)).toNat : Int) = _
  rw [bv_nat, bv_nat, BitVec.toNat_or, BitVec.toNat_ofNat, BitVec.toNat_ofNat, Nat.mod_eq_of_lt (by omega), Nat.mod_eq_of_lt (by omega)]
  have : x ||| y < 2 ^ 64 := Nat.or_lt_two_pow (by omega) (by omega)
  exact u64w (by omega) (by omega)

/-- Two numbers that share no bit. -/
theorem or_add (a b k : Nat) (ha : a < 2 ^ k) (hb : 2 ^ k * b + a < 18446744073709551616) : Go.bits .or .u64 ((2 ^ k * b : Nat) : Int) (a : Int) = ((2 ^ k * b + a : Nat) : Int) := by
  rw [bits_or64 _ _ (by omega) (by omega), Nat.two_pow_add_eq_or_of_lt ha]
theorem or_add' (a b k : Nat) (ha : a < 2 ^ k) (hb : 2 ^ k * b + a < 18446744073709551616) : Go.bits .or .u64 (a : Int) ((2 ^ k * b : Nat) : Int) = ((a + 2 ^ k * b : Nat) : Int) := by
  rw [bits_or64 _ _ (by omega) (by omega), Nat.or_comm, ← Nat.two_pow_add_eq_or_of_lt ha, Nat.add_comm]

theorem extract_rest (s : ByteArray) (p n : Nat) (h : p + n ≤ s.size) : (s.extract p s.size).extract 0 n = s.extract p (p + n) := by
  apply ByteArray.ext
  simp only [ByteArray.data_extract, Array.extract_extract]
  congr 1
  show min (p + n) s.size = p + n
  omega
theorem extract_rest2 (s : ByteArray) (p n : Nat) (h : p + n ≤ s.size) : (s.extract p s.size).extract n (s.extract p s.size).size = s.extract (p + n) s.size := by
  apply ByteArray.ext
  have : (s.extract p s.size).size = s.size - p := by simp [ByteArray.size_extract]
  rw [this]
  simp only [ByteArray.data_extract, Array.extract_extract]
  congr 1
  show min (p + (s.size - p)) s.size = s.size
  omega
theorem extract_size (s : ByteArray) (p : Nat) : (s.extract p s.size).size = s.size - p := by simp [ByteArray.size_extract]
theorem extract_all (s : ByteArray) : s.extract 0 s.size = s := by
  apply ByteArray.ext; simp
end Go.Proofs.Ytjlohahknngmmaa
