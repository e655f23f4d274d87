/- The runes of a text and their sizes, as the model's own range tells them: plain lists, no program. -/
import Derived.Laws.RangeAny
namespace Go.Proofs.YtckbcnmcnhahhaaDoor
open Go

/-- The runes from place p on, by at most f of them. -/
def rnFrom (s : ByteArray) : Nat → Nat → List (Nat × Nat)
  | 0, _ => []
  | f + 1, p => if p < s.size then Utf8.decode s p :: rnFrom s f (p + (Utf8.decode s p).2) else []
def rn (s : ByteArray) : List (Nat × Nat) := rnFrom s s.size 0

theorem dec_pos (s : ByteArray) (p : Nat) (h : p < s.size) : 1 ≤ (Utf8.decode s p).2 := by
  by_cases ha : (s[p]'h).toNat < 128
  · rw [decode_ascii s p h ha]; exact Nat.le_refl _
  · exact (decode_high s p h (by omega)).2

theorem dec_fits (s : ByteArray) (p : Nat) (h : p < s.size) : p + (Utf8.decode s p).2 ≤ s.size := by
  simp only [Utf8.decode]
  repeat' split
  all_goals simp_all
  all_goals omega

theorem dec_le4 (s : ByteArray) (p : Nat) : (Utf8.decode s p).2 ≤ 4 := by
  simp only [Utf8.decode]
  repeat' split
  all_goals simp

theorem dec_rune_le (s : ByteArray) (p : Nat) : (Utf8.decode s p).1 ≤ 1114111 := by
  have hb : ∀ k, (s.get! (p + k)).toNat < 256 := fun k => (s.get! (p + k)).toNat_lt
  have h0 := hb 0; have h1 := hb 1; have h2 := hb 2; have h3 := hb 3
  simp only [Utf8.decode]
  repeat' split
  all_goals simp_all [Utf8.runeError, Utf8.valid]
  all_goals omega

theorem rnFrom_end (s : ByteArray) (f p : Nat) (h : ¬ p < s.size) : rnFrom s f p = [] := by
  cases f with
  | zero => rfl
  | succ f => simp [rnFrom, h]

theorem rnFrom_fuel (s : ByteArray) : ∀ (f g p : Nat), s.size ≤ p + f → s.size ≤ p + g → rnFrom s f p = rnFrom s g p := by
  intro f
  induction f with
  | zero => intro g p h1 h2; rw [rnFrom_end s 0 p (by omega), rnFrom_end s g p (by omega)]
  | succ f ih =>
    intro g p h1 h2
    by_cases hp : p < s.size
    · obtain ⟨g, rfl⟩ : ∃ m, g = m + 1 := ⟨g - 1, by omega⟩
      have := dec_pos s p hp
      simp only [rnFrom, hp, if_true]
      rw [ih g _ (by omega) (by omega)]
    · rw [rnFrom_end s _ p hp, rnFrom_end s _ p hp]

theorem rnFrom_len (s : ByteArray) : ∀ (f p : Nat), p ≤ s.size → (rnFrom s f p).length ≤ s.size - p := by
  intro f
  induction f with
  | zero => intro p _; simp [rnFrom]
  | succ f ih =>
    intro p hp
    by_cases h : p < s.size
    · have h1 := dec_pos s p h
      have h2 := dec_fits s p h
      have := ih (p + (Utf8.decode s p).2) h2
      simp only [rnFrom, h, if_true, List.length_cons]
      omega
    · rw [rnFrom_end s _ p h]; simp

theorem get_getD (s : ByteArray) (i : Nat) : s.get! i = s.data.toList.getD i 0 := by
  show s.data[i]! = _
  rcases Nat.lt_or_ge i s.data.size with h | h
  · rw [getElem!_pos s.data i h, List.getD_eq_getElem?_getD, List.getElem?_eq_getElem (by simpa using h)]; rfl
  · rw [getElem!_neg s.data i (by omega), List.getD_eq_getElem?_getD, List.getElem?_eq_none (by simpa using h)]; rfl
/-- What is read at place p of a text is what is read at the begin of what stands from p on. -/
theorem extract_get (s : ByteArray) (p j : Nat) : (s.extract p s.size).get! (0 + j) = s.get! (p + j) := by
  have hl : s.data.toList.length = s.size := Array.length_toList
  rw [get_getD, get_getD, ByteArray.data_extract, Array.toList_extract, List.extract_eq_take_drop, List.take_of_length_le (by rw [List.length_drop]; omega), List.getD_eq_getElem?_getD, List.getD_eq_getElem?_getD, List.getElem?_drop, Nat.zero_add]

theorem decode_extract (s : ByteArray) (p : Nat) (h : p < s.size) : Utf8.decode (s.extract p s.size) 0 = Utf8.decode s p := by
  have hz : (s.extract p s.size).size = s.size - p := by simp [ByteArray.size_extract]
  have hc : ∀ k, decide (0 + k < (s.extract p s.size).size) = decide (p + k < s.size) := fun k => by rw [hz, Bool.eq_iff_iff, decide_eq_true_eq, decide_eq_true_eq]; omega
  unfold Utf8.decode
  simp only [extract_get, hc]

theorem ba_append (a b : ByteArray) : (a ++ b).data.toList = a.data.toList ++ b.data.toList := by simp

/-- A fact on every byte, asked of each by the kernel. -/
theorem byte_all (p : UInt8 → Bool) (h : (List.range 256).all (fun n => p (UInt8.ofNat n)) = true) (c : UInt8) : p c = true := by
  have h1 := List.all_eq_true.1 h c.toNat (List.mem_range.2 c.toNat_lt)
  rwa [UInt8.ofNat_toNat] at h1

end Go.Proofs.YtckbcnmcnhahhaaDoor
