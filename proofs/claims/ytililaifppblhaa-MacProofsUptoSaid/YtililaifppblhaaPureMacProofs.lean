/- MacProofs, plain: where the texts are of 1048576 bytes at most: a proof is HMAC, chains are the sums that the words say, and proofs are compared whole. -/
import Derived.Test.YtililaifppblhaaMacQ
namespace Go.Proofs.Ytililaifppblhaa.Pure
open Go Go.RowKit Go.Proofs.Ytililaifppblhaa Go.Proofs.Ytililaifppblhaa.PM Go.Proofs.YtililaifppblhaaW.PrintWords Go.Proofs.YtililaifppblhaaW.PrintLast
set_option linter.unusedVariables false
set_option linter.unusedSimpArgs false

theorem or8 (x y : UInt8) : Go.bits .or .u8 (x.toNat : Int) (y.toNat : Int) = ((x ||| y).toNat : Int) := by
  show IntKind.u8.wrap ((BitVec.ofInt 8 (x.toNat : Int) ||| BitVec.ofInt 8 (y.toNat : Int)).toNat : Int) = _
  rw [Sha.bv8, Sha.bv8]
  show ((x ||| y).toNat : Int) % 256 = _
  have := (x ||| y).toNat_lt
  omega
theorem or_zero (x y : UInt8) : x ||| y = 0 ↔ x = 0 ∧ y = 0 := by
  constructor
  · intro h
    have h' := congrArg UInt8.toNat h
    rw [UInt8.toNat_or] at h'
    have h2 : x.toNat ||| y.toNat = 0 := h'
    have hx : x.toNat ≤ x.toNat ||| y.toNat := Nat.left_le_or
    have hy : y.toNat ≤ x.toNat ||| y.toNat := Nat.right_le_or
    exact ⟨UInt8.toNat_inj.1 (by show x.toNat = 0; omega), UInt8.toNat_inj.1 (by show y.toNat = 0; omega)⟩
  · rintro ⟨rfl, rfl⟩; rfl
theorem xor_zero (x y : UInt8) : x ^^^ y = 0 ↔ x = y := by
  constructor
  · intro h
    have h2 : (x ^^^ y) ^^^ y = 0 ^^^ y := by rw [h]
    rw [UInt8.xor_assoc, UInt8.xor_self, UInt8.xor_zero, UInt8.zero_xor] at h2
    exact h2
  · rintro rfl
    exact UInt8.xor_self
/-- Equal's loop, from place i on. -/
theorem eqL (a b : ByteArray) (hab : a.size = b.size) (ha : a.size ≤ 140737488351232) :
    ∀ (d i : Nat) (p : UInt8), i + d = a.size → (p = 0 ↔ a.data.toList.take i = b.data.toList.take i) →
      Ev (fun k => mac_Equal.l0 k a b (p.toNat : Int) (a.size : Int) (i : Int)) (a.toList == b.toList)
  | 0, i, p, h, hp => by
    refine Ev.step (f := fun k => _) (fun k => by rw [mac_Equal.l0]) ?_
    refine evIfNeg (by omega) ?_
    have e : ((p.toNat : Int) == 0) = (a.toList == b.toList) := by
      rw [List.take_of_length_le (by rw [Array.length_toList]; show a.size ≤ i; omega), List.take_of_length_le (by rw [Array.length_toList]; show b.size ≤ i; omega)] at hp
      rw [Bool.eq_iff_iff, beq_iff_eq, beq_iff_eq, ByteArray.toList_eq, ByteArray.toList_eq, ← hp]
      constructor
      · intro h
        exact UInt8.toNat_inj.1 (by show p.toNat = 0; omega)
      · rintro rfl; rfl
    rw [e]
    exact Ev.now _
  | d + 1, i, p, h, hp => by
    have hi : i < a.size := by omega
    have hi2 : i < b.size := by omega
    obtain ⟨x, hx, tx, _⟩ := bt_nat' a i hi
    obtain ⟨y, hy, ty, _⟩ := bt_nat' b i hi2
    refine Ev.step (f := fun k => _) (fun k => by rw [mac_Equal.l0]) ?_
    refine evIfPos (by omega) ?_
    refine evIfPos (by omega) ?_
    refine evIfPos (by omega) ?_
    refine evIfPos (by omega) ?_
    rw [hx, hy, Sha.xor8, or8, wrap64_succ (by omega)]
    refine eqL a b hab ha d (i + 1) (p ||| (x ^^^ y)) (by omega) ?_
    rw [or_zero, xor_zero, hp, tx, ty]
    constructor
    · rintro ⟨h1, rfl⟩; rw [h1]
    · intro h1
      have h2 := List.append_inj h1 (by rw [List.length_take, List.length_take, Array.length_toList, Array.length_toList, show a.data.size = a.size from rfl, show b.data.size = b.size from rfl, hab])
      exact ⟨h2.1, by simpa using h2.2⟩
theorem evEq (a b : ByteArray) (ha : a.size ≤ 140737488351232) : Ev (fun k => mac_Equal.f k a b) (a.toList == b.toList) := by
  simp only [mac_Equal.f]
  by_cases h : a.size = b.size
  · refine evIfPos (by omega) ?_
    exact eqL a b h ha a.size 0 0 (by omega) (by simp)
  · refine evIfNeg (by omega) ?_
    have e : (a.toList == b.toList) = false := by
      rw [beq_eq_false_iff_ne]
      intro h2
      rw [toList_inj] at h2
      exact h (by rw [h2])
    rw [e]
    exact Ev.now _
theorem numF (n : Nat) (h : n < 18446744073709551616) : mac_number.f (n : Int) = some ⟨(Sha.numB n).toArray⟩ := by
  unfold mac_number.f
  rw [if_pos ⟨by omega, by omega⟩, Int.toNat_natCast]
theorem evNum (n : Nat) : Ev (fun k => PM.atriumref04_Number.f k (n : Int)) ⟨(Sha.numB n).toArray⟩ :=
  Ev.of (k := 9) (fun k => PM.atriumref04_Number.mono _ k) ((show PM.atriumref04_Number.f 9 (n : Int) = PN.atriumref04_Number.f 9 (n : Int) by kernel_rfl).trans (Sha.ref_number_n n))
theorem numB_size (n : Nat) : (⟨(Sha.numB n).toArray⟩ : ByteArray).size = 8 := rfl
theorem MacProofs : ∀ (a0 : ByteArray) (a1 : ByteArray) (a2 : ByteArray), a0.size ≤ 1048576 → a1.size ≤ 1048576 → a2.size ≤ 1048576 → ∃ k, atriumlaw04_MacProofs.f k a0 a1 a2 = some true := by
  intro a0 a1 a2 h0 h1 h2
  apply Ev.rounds
  simp only [atriumlaw04_MacProofs.f]
  refine evBindc (a := true) rfl ?_
  refine evIfPos rfl ?_
  refine Ev.bind (evMac a0 a1 (by omega) (by omega)) ?_
  refine evBindc (rmacF a0 a1 (by omega) (by omega)) ?_
  refine evIfPos rfl ?_
  have hs : ((a0 ++ ⟨(Sha.numB a1.size).toArray⟩ : ByteArray) ++ a1).size = a0.size + 8 + a1.size := by rw [ByteArray.size_append, ByteArray.size_append, numB_size]
  have ec : mac_Chain.f a0 a1 = some (sumT ((a0 ++ ⟨(Sha.numB a1.size).toArray⟩) ++ a1)) := by
    unfold mac_Chain.f
    rw [numF a1.size (by omega)]
    simp only [Option.bind_some]
    rw [if_pos (by rw [numB_size]; omega), if_pos (by rw [ByteArray.size_append, numB_size]; omega), sumF _ (by rw [hs]; omega)]
    rfl
  refine evBindc ec ?_
  have er : Ev (fun k => atriumref04_Chain.f k a0 a1) (sumT ((a0 ++ ⟨(Sha.numB a1.size).toArray⟩) ++ a1)) := by
    simp only [atriumref04_Chain.f]
    refine Ev.bind (evNum a1.size) ?_
    refine evIfPos (by rw [numB_size]; omega) ?_
    refine evIfPos (by rw [ByteArray.size_append, numB_size]; omega) ?_
    exact evBindc (rsumF _ (by rw [hs]; omega)) (Ev.now _)
  refine Ev.bind er ?_
  refine evIfPos rfl ?_
  refine Ev.bind (evEq a1 a2 (by omega)) ?_
  refine evIfPos (by simp) ?_
  refine evIfPos (by omega) ?_
  have e0 : a1 ++ (⟨#[]⟩ : ByteArray) = a1 := by
    apply data_inj
    rw [ByteArray.data_append, Array.toList_append]
    simp
  rw [e0]
  refine Ev.bind (evEq a1 a1 (by omega)) ?_
  rw [show (a1.toList == a1.toList) = true by simp]
  exact Ev.now _
end Go.Proofs.Ytililaifppblhaa.Pure
