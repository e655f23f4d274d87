/- The hand-walked functions of mac and of the document's sums, in the form in which a printed caller takes a callee. -/
import Derived.Test.YtililaifppblhaaShaS
import Derived.Test.YtililaifppblhaaHsE
import Derived.Test.YtililaifppblhaaUng
namespace Go.Proofs.Ytililaifppblhaa
open Go Go.RowKit Go.Proofs.YtililaifppblhaaW.PrintWords
set_option linter.unusedVariables false

def sumT (s : ByteArray) : ByteArray := ⟨(Sha.sumV s.data.toList).toArray⟩
theorem sumT_size (s : ByteArray) : (sumT s).size = 32 := by
  show (Sha.sumV s.data.toList).toArray.size = 32
  rw [List.size_toArray, Sha.sumV_len]
def mac_Sum.f (a0 : ByteArray) : Option ByteArray := if a0.size ≤ 1152921504606846976 then some (sumT a0) else none
theorem mac_Sum.calls (a0 : ByteArray) (r : ByteArray) (w : World) (h : mac_Sum.f a0 = some r) :
    Calls Try.prog 12 #[.string a0] w fun e w' => e = .returned (.string r) ∧ Below w.heap.size w w' := by
  unfold mac_Sum.f at h
  split at h
  · rename_i hs
    injection h with h
    subst h
    exact Sha.mac_sum_any a0 w hs
  · cases h
def atriumref04_Sum.f (a0 : ByteArray) : Option ByteArray := if a0.size ≤ 140737488354900 then some (sumT a0) else none
theorem atriumref04_Sum.calls (a0 : ByteArray) (r : ByteArray) (w : World) (h : atriumref04_Sum.f a0 = some r) :
    Calls Try.prog 13 #[.string a0] w fun e w' => e = .returned (.string r) ∧ Below w.heap.size w w' := by
  unfold atriumref04_Sum.f at h
  split at h
  · rename_i hs
    injection h with h
    subst h
    exact Sha.ref_sum_any a0 w hs
  · cases h
def mac_number.f (a0 : Int) : Option ByteArray := if 0 ≤ a0 ∧ a0 < 18446744073709551616 then some ⟨(Sha.numB a0.toNat).toArray⟩ else none
theorem mac_number.calls (a0 : Int) (r : ByteArray) (w : World) (h : mac_number.f a0 = some r) :
    Calls Try.prog 40 #[.int .u64 a0] w fun e w' => e = .returned (.string r) ∧ Below w.heap.size w w' := by
  unfold mac_number.f at h
  split at h
  · rename_i hs
    injection h with h
    subst h
    have := Sha.number_any a0.toNat w (by omega)
    rw [Int.toNat_of_nonneg hs.1] at this
    exact this
  · cases h
def mac_turned.f (a0 : ByteArray) (a1 : Int) : Option ByteArray := if a0.size ≤ 64 ∧ 0 ≤ a1 ∧ a1 < 256 then some ⟨(Sha.turnedL a0.data.toList a1.toNat.toUInt8).toArray⟩ else none
theorem mac_turned.calls (a0 : ByteArray) (a1 : Int) (r : ByteArray) (w : World) (h : mac_turned.f a0 a1 = some r) :
    Calls Try.prog 43 #[.string a0, .int .u8 a1] w fun e w' => e = .returned (.string r) ∧ Below w.heap.size w w' := by
  unfold mac_turned.f at h
  split at h
  · rename_i hs
    injection h with h
    subst h
    have := Sha.turned_any a0 a1.toNat.toUInt8 w hs.1
    rw [show ((a1.toNat.toUInt8).toNat : Int) = a1 by
      have : a1.toNat.toUInt8.toNat = a1.toNat % 256 := UInt8.toNat_ofNat'
      omega] at this
    exact this
  · cases h
def mac_groups.f (a0 : ByteArray) (a1 : Int) (a2 : ByteArray) : Option ByteArray :=
  if (a0.size ≤ 9223372036854775807 ∧ (Sha.encI a1.toNat a0.data.toList 0 0).length ≤ 140737488355328) ∧ (a1 = 4 ∨ a1 = 6) ∧ a2.size = 2 ^ a1.toNat then some ⟨(Sha.letB a2 (Sha.encI a1.toNat a0.data.toList 0 0)).toArray⟩ else none
theorem mac_groups.calls (a0 : ByteArray) (a1 : Int) (a2 : ByteArray) (r : ByteArray) (w : World) (h : mac_groups.f a0 a1 a2 = some r) :
    Calls Try.prog 45 #[.string a0, .int .i64 a1, .string a2] w fun e w' => e = .returned (.string r) ∧ Below w.heap.size w w' := by
  unfold mac_groups.f at h
  split at h
  · rename_i hs
    injection h with h
    subst h
    have := Sha.groups_any a0 a1.toNat a2 w hs.1.1 hs.1.2 (by omega) hs.2.2
    rw [Int.toNat_of_nonneg (by omega)] at this
    exact this
  · cases h
def mac_ungrouped.f (a0 : ByteArray) (a1 : Int) (a2 : ByteArray) : Option (ByteArray × Bool) :=
  if a0.size ≤ 140737488355328 ∧ (a1 = 4 ∨ a1 = 6) ∧ a2.size = 2 ^ a1.toNat then some (Sha.decRes (Sha.decG a1.toNat a2.data.toList a0.data.toList 0 0)) else none
theorem mac_ungrouped.calls (a0 : ByteArray) (a1 : Int) (a2 : ByteArray) (r1 : ByteArray) (r2 : Bool) (w : World) (h : mac_ungrouped.f a0 a1 a2 = some (r1, r2)) :
    Calls Try.prog 44 #[.string a0, .int .i64 a1, .string a2] w fun e w' => e = .returned (.tuple #[.string r1, .bool r2]) ∧ Below w.heap.size w w' := by
  unfold mac_ungrouped.f at h
  split at h
  · rename_i hs
    injection h with h
    have := Sha.ungrouped_any a0 a1.toNat a2 w hs.1 (by omega) hs.2.2
    rw [Int.toNat_of_nonneg (by omega)] at this
    refine this.mono fun e w' ⟨h1, h2⟩ => ⟨?_, h2⟩
    unfold Sha.RetDec at h1
    rw [h] at h1
    exact h1
  · cases h
def strings_Repeat.f (a0 : ByteArray) (a1 : Int) : Option ByteArray := if a0 = ⟨#[0]⟩ ∧ 0 ≤ a1 ∧ a1 ≤ 64 then some ⟨(List.replicate a1.toNat 0).toArray⟩ else none
theorem strings_Repeat.calls (a0 : ByteArray) (a1 : Int) (r : ByteArray) (w : World) (h : strings_Repeat.f a0 a1 = some r) :
    Calls Try.prog 39 #[.string a0, .int .i64 a1] w fun e w' => e = .returned (.string r) ∧ Below w.heap.size w w' := by
  unfold strings_Repeat.f at h
  split at h
  · rename_i hs
    injection h with h
    obtain ⟨rfl, h1, h2⟩ := hs
    have := Sha.repeat_any a1.toNat w (by omega)
    rw [Int.toNat_of_nonneg h1] at this
    refine this.mono ?_
    rintro e w' ⟨t, rfl, ht, _, hb⟩
    refine ⟨?_, hb⟩
    rw [← h, ← ht]
  · cases h
end Go.Proofs.Ytililaifppblhaa
