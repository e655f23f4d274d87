/- Plain: whose a turned credential is. -/
import Derived.Test.YtehnpmkfgdmmmaaCrZa
namespace Go.Proofs.Ytehnpmkfgdmmmaa.Pure
open Go Go.RowKit Go.Proofs.Ytehnpmkfgdmmmaa Go.Proofs.Ytehnpmkfgdmmmaa.PK Go.Proofs.YtehnpmkfgdmmmaaW.PrintWords Go.Proofs.YtehnpmkfgdmmmaaW.PrintLast
set_option linter.unusedVariables false
set_option linter.unusedSimpArgs false

theorem mint_ok (t : S24) : (mintT t).2 = 0 ↔ tenOk t = true := by
  unfold mintT
  split
  · rename_i h; simp [h]
  · rename_i h; simp [h]
theorem mint_inj (a b : S24) (ha : tenOk a = true) (hb : tenOk b = true) (h : (mintT a).1 = (mintT b).1) : a.f0 = b.f0 := by
  unfold mintT at h
  rw [if_pos ha, if_pos hb] at h
  have h2 : (a.f0 ++ ⟨#[46]⟩) ++ sufT a.f0 a.f1 = (b.f0 ++ ⟨#[46]⟩) ++ sufT b.f0 b.f1 := h
  have hd := congrArg (fun x => x.data.toList) h2
  simp only [ByteArray.data_append, Array.toList_append, List.append_assoc] at hd
  have hz := congrArg ByteArray.size h2
  simp only [ByteArray.size_append, sufT_size] at hz
  exact data_inj (List.append_inj hd (by rw [len_data, len_data]; omega)).1
theorem good_at (l : List S24) : ∀ k, k ≤ l.length → goodTo l k = true → ∀ i, i < k → tenOk (rd_T24 l (i : Int)) = true ∧ ∀ j, j < i → (rd_T24 l (j : Int)).f0 ≠ (rd_T24 l (i : Int)).f0
  | 0, _, _, i, hi => absurd hi (by omega)
  | k + 1, hk, hg, i, hi => by
    have hgs : goodTo l (k + 1) = (goodTo l k && (tenOk (rd_T24 l (k : Int)) && !(names (l.take k)).contains (rd_T24 l (k : Int)).f0.data.toList)) := rfl
    rw [hg] at hgs
    have h3 := hgs.symm
    rw [Bool.and_eq_true, Bool.and_eq_true] at h3
    by_cases he : i < k
    · exact good_at l k (by omega) h3.1 i he
    · obtain rfl : i = k := by omega
      refine ⟨h3.2.1, fun j hj hq => ?_⟩
      have h4 := h3.2.2
      rw [Bool.not_eq_true'] at h4
      have : (names (l.take i)).contains (rd_T24 l (i : Int)).f0.data.toList = true := by
        unfold names
        rw [List.contains_iff_mem, List.mem_map]
        refine ⟨l[j]'(by omega), ?_, ?_⟩
        · rw [List.mem_take_iff_getElem]
          exact ⟨j, by omega, rfl⟩
        · rw [← hq, rd_get l j (by omega)]
      rw [this] at h4
      cases h4
theorem mint_same (l : List S24) (hg : goodTo l l.length = true) (i N : Nat) (hi : i < l.length) (hN : N < l.length) (h : (mintT (rd_T24 l (i : Int))).1 = (mintT (rd_T24 l (N : Int))).1) : i = N := by
  have gi := good_at l l.length (Nat.le_refl _) hg i hi
  have gN := good_at l l.length (Nat.le_refl _) hg N hN
  have hn := mint_inj _ _ gi.1 gN.1 h
  rcases Nat.lt_trichotomy i N with h1 | h1 | h1
  · exact absurd hn (gN.2 i h1)
  · exact h1
  · exact absurd hn.symm (gi.2 N h1)
theorem ver_own (l : List S24) (hg : goodTo l l.length = true) (N : Nat) (hN : N < l.length) : ∀ (d i : Nat), i + d = l.length → i ≤ N → verAt l (mintT (rd_T24 l (N : Int))).1 d i = ((N : Int), 0)
  | 0, i, h, hi => absurd hN (by omega)
  | d + 1, i, h, hi => by
    rw [verAt]
    by_cases he : i = N
    · subst he
      rw [if_pos rfl]
    · rw [if_neg (fun h2 => he (mint_same l hg i N (by omega) hN h2))]
      exact ver_own l hg N hN d (i + 1) (by omega) (by omega)
theorem ver_other (l : List S24) (N : Nat) (x : ByteArray) (hx : x ≠ (mintT (rd_T24 l (N : Int))).1) : ∀ (d i : Nat), verAt l x d i = (0, 210) ∨ ∃ m : Nat, (m : Int) ≠ (N : Int) ∧ verAt l x d i = ((m : Int), 0)
  | 0, i => .inl rfl
  | d + 1, i => by
    rw [verAt]
    by_cases h : (mintT (rd_T24 l (i : Int))).1 = x
    · rw [if_pos h]
      refine .inr ⟨i, fun he => hx ?_, rfl⟩
      rw [← h, he]
    · rw [if_neg h]
      exact ver_other l N x hx d (i + 1)
def turnB (s : ByteArray) (k : Nat) (y : UInt8) : ByteArray := ⟨(s.data.toList.set k (s.data.toList.getD k 0 ^^^ y)).toArray⟩
theorem turn_none (s : ByteArray) (k : Nat) (hk : k < s.size) : turnB s k 0 = s := by
  apply data_inj
  show s.data.toList.set k (s.data.toList.getD k 0 ^^^ 0) = s.data.toList
  rw [UInt8.xor_zero, List.getD_eq_getElem?_getD, List.getElem?_eq_getElem (by rw [len_data]; exact hk)]
  exact List.set_getElem_self _
theorem turn_some (s : ByteArray) (k : Nat) (y : UInt8) (hk : k < s.size) (hy : y ≠ 0) : turnB s k y ≠ s := by
  intro h
  have h2 : s.data.toList.set k (s.data.toList.getD k 0 ^^^ y) = s.data.toList := by
    have := congrArg (fun x => x.data.toList) h
    exact this
  have h3 := congrArg (fun t => t.getD k 0) h2
  simp only [List.getD_eq_getElem?_getD] at h3
  rw [List.getElem?_set_self (by rw [len_data]; exact hk)] at h3
  generalize (s.data.toList[k]?).getD 0 = x at h3
  have h4 : x ^^^ (x ^^^ y) = x ^^^ x := by rw [show x ^^^ y = x from h3]
  rw [← UInt8.xor_assoc, UInt8.xor_self, UInt8.zero_xor] at h4
  exact hy h4
theorem tmod_at (w : Int) (n : Nat) (hn : 0 < n) : (Int.tmod w n < 0 → ∃ N : Nat, N < n ∧ Int.tmod w n + n = (N : Int)) ∧ (¬ Int.tmod w n < 0 → ∃ N : Nat, N < n ∧ Int.tmod w n = (N : Int)) := by
  have h1 : Int.tmod w n < n := Int.tmod_lt_of_pos w (by omega)
  have h2 : -(n : Int) < Int.tmod w n := Int.lt_tmod_of_pos w (by omega)
  exact ⟨fun h => ⟨(Int.tmod w n + n).toNat, by omega, by omega⟩, fun h => ⟨(Int.tmod w n).toNat, by omega, by omega⟩⟩
end Go.Proofs.Ytehnpmkfgdmmmaa.Pure
