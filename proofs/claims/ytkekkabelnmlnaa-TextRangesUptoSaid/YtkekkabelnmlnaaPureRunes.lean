/- The reference's Decode, Runes, Valid and Count are the model's own range: joined. -/
import Derived.Test.YtkekkabelnmlnaaPureDecode
namespace Go.Proofs.Ytkekkabelnmlnaa.Pure
set_option linter.unusedVariables false
open Go.RowKit Go.Proofs.Ytkekkabelnmlnaa Go.Proofs.Ytkekkabelnmlnaa.PT Go.Proofs.YtkekkabelnmlnaaW.PrintWords Go.Proofs.YtkekkabelnmlnaaW.PrintLast

theorem range2 (s : ByteArray) : (List.range 2).map (byteN s) = [byteN s 0, byteN s 1] := rfl
theorem range3 (s : ByteArray) : (List.range 3).map (byteN s) = [byteN s 0, byteN s 1, byteN s 2] := rfl
theorem range4 (s : ByteArray) : (List.range 4).map (byteN s) = [byteN s 0, byteN s 1, byteN s 2, byteN s 3] := rfl

set_option maxRecDepth 100000 in
theorem refDecode_l0 (s : ByteArray) (h0 : 0 < s.size) : Ev (fun k => atriumref15_Decode.l0 k s 1) (((Utf8.decode s 0).1 : Int), ((Utf8.decode s 0).2 : Int)) := by
  have q0 := byteN_lt s 0
  have q1 := byteN_lt s 1
  have q2 := byteN_lt s 2
  have q3 := byteN_lt s 3
  have d0 := dec0 s h0
  refine l0_1 s _ (by omega) (j2_ev s 1 _ _ (by omega) (by omega) ?_ ?_)
  · intro hv he
    have hlt : byteN s 0 < 128 := by
      rw [Int.toNat_natCast] at he
      rcases Nat.lt_or_ge (byteN s 0) 128 with hlt | hge
      · exact hlt
      · rw [encN, if_neg (by omega), if_pos (by omega)] at he
        exact absurd (congrArg List.length he) (by simp)
    rw [d0, if_pos hlt]
  intro hmiss
  have hge : ¬ byteN s 0 < 128 := fun hlt => hmiss ⟨by rw [validRune_eq]; unfold validRune; simp; omega, by rw [Int.toNat_natCast]; unfold encN; rw [if_pos hlt]; rfl⟩
  rw [if_neg hge] at d0
  rcases Nat.lt_or_ge s.size 2 with hs2 | hs2
  · rw [if_neg (by omega), if_neg (by omega), if_neg (by omega)] at d0
    rw [d0]
    exact l0_end s 2 (by omega)
  have i2 := enc2_iff (byteN s 0) (byteN s 1) q0 q1 (by omega)
  change _ ↔ (byteN s 0 / 32 = 6 ∧ byteN s 1 / 64 = 2 ∧ 128 ≤ c2 s) at i2
  refine l0_2 s _ hs2 (j2_ev s 2 _ _ hs2 (by omega) ?_ ?_)
  · intro hv he
    rw [range2] at he
    obtain ⟨a1, a2, a3⟩ := i2.1 ⟨hv, he⟩
    rw [if_pos ⟨a1, by omega, a2⟩, if_pos a3] at d0
    rw [d0]
    unfold c2 at a3 ⊢
    simp only [Prod.mk.injEq]
    constructor
    · omega
    · trivial
  intro hmiss2
  rw [range2, i2] at hmiss2
  rcases Nat.lt_or_ge s.size 3 with hs3 | hs3
  · have : Utf8.decode s 0 = (65533, 1) := by
      rw [d0]
      by_cases hx : byteN s 0 / 32 = 6 ∧ 1 < s.size ∧ byteN s 1 / 64 = 2
      · rw [if_pos hx, if_neg (fun h => hmiss2 ⟨hx.1, hx.2.2, h⟩)]
      · rw [if_neg hx, if_neg (by omega), if_neg (by omega)]
    rw [this]
    exact l0_end s 3 (by omega)
  have i3 := enc3_iff (byteN s 0) (byteN s 1) (byteN s 2) q0 q1 q2 (by omega)
  change _ ↔ (byteN s 0 / 16 = 14 ∧ byteN s 1 / 64 = 2 ∧ byteN s 2 / 64 = 2 ∧ 2048 ≤ c3 s ∧ Utf8.valid (c3 s : Int) = true) at i3
  refine l0_3 s _ hs3 (j2_ev s 3 _ _ hs3 (by omega) ?_ ?_)
  · intro hv he
    rw [range3] at he
    obtain ⟨a1, a2, a3, a4, a5⟩ := i3.1 ⟨hv, he⟩
    rw [if_neg (by omega), if_pos ⟨⟨a1, by omega, a2⟩, by omega, a3⟩, if_pos ⟨a4, a5⟩] at d0
    rw [d0]
    unfold c3 at a4 ⊢
    simp only [Prod.mk.injEq]
    constructor
    · omega
    · trivial
  intro hmiss3
  rw [range3, i3] at hmiss3
  rcases Nat.lt_or_ge s.size 4 with hs4 | hs4
  · have : Utf8.decode s 0 = (65533, 1) := by
      rw [d0]
      by_cases hx : byteN s 0 / 32 = 6 ∧ 1 < s.size ∧ byteN s 1 / 64 = 2
      · rw [if_pos hx, if_neg (fun h => hmiss2 ⟨hx.1, hx.2.2, h⟩)]
      rw [if_neg hx]
      by_cases hy : (byteN s 0 / 16 = 14 ∧ 1 < s.size ∧ byteN s 1 / 64 = 2) ∧ 2 < s.size ∧ byteN s 2 / 64 = 2
      · rw [if_pos hy, if_neg (fun h => hmiss3 ⟨hy.1.1, hy.1.2.2, hy.2.2, h.1, h.2⟩)]
      · rw [if_neg hy, if_neg (by omega)]
    rw [this]
    exact l0_end s 4 (by omega)
  have i4 := enc4_iff (byteN s 0) (byteN s 1) (byteN s 2) (byteN s 3) q0 q1 q2 q3 (by omega)
  change _ ↔ (byteN s 0 / 8 = 30 ∧ byteN s 1 / 64 = 2 ∧ byteN s 2 / 64 = 2 ∧ byteN s 3 / 64 = 2 ∧ 65536 ≤ c4 s ∧ Utf8.valid (c4 s : Int) = true) at i4
  refine l0_4 s _ hs4 (j2_ev s 4 _ _ hs4 (by omega) ?_ ?_)
  · intro hv he
    rw [range4] at he
    obtain ⟨a1, a2, a3, a4, a5, a6⟩ := i4.1 ⟨hv, he⟩
    rw [if_neg (by omega), if_neg (by omega), if_pos ⟨⟨⟨a1, by omega, a2⟩, by omega, a3⟩, by omega, a4⟩, if_pos ⟨a5, a6⟩] at d0
    rw [d0]
    unfold c4 at a5 ⊢
    simp only [Prod.mk.injEq]
    constructor
    · omega
    · trivial
  intro hmiss4
  rw [range4, i4] at hmiss4
  have : Utf8.decode s 0 = (65533, 1) := by
    rw [d0]
    by_cases hx : byteN s 0 / 32 = 6 ∧ 1 < s.size ∧ byteN s 1 / 64 = 2
    · rw [if_pos hx, if_neg (fun h => hmiss2 ⟨hx.1, hx.2.2, h⟩)]
    rw [if_neg hx]
    by_cases hy : (byteN s 0 / 16 = 14 ∧ 1 < s.size ∧ byteN s 1 / 64 = 2) ∧ 2 < s.size ∧ byteN s 2 / 64 = 2
    · rw [if_pos hy, if_neg (fun h => hmiss3 ⟨hy.1.1, hy.1.2.2, hy.2.2, h.1, h.2⟩)]
    rw [if_neg hy]
    by_cases hz : ((byteN s 0 / 8 = 30 ∧ 1 < s.size ∧ byteN s 1 / 64 = 2) ∧ 2 < s.size ∧ byteN s 2 / 64 = 2) ∧ 3 < s.size ∧ byteN s 3 / 64 = 2
    · rw [if_pos hz, if_neg (fun h => hmiss4 ⟨hz.1.1.1, hz.1.1.2.2, hz.1.2.2, hz.2.2, h.1, h.2⟩)]
    · rw [if_neg hz]
  rw [this]
  exact l0_end s 5 (by omega)

theorem toList_nil (s : ByteArray) : s.toList = ([] : List UInt8) ↔ s.size = 0 := by
  rw [ByteArray.toList_eq]
  constructor
  · intro h
    have : s.data.toList.length = 0 := by rw [h]; rfl
    rw [Array.length_toList] at this; exact this
  · intro h
    exact List.eq_nil_of_length_eq_zero (by rw [Array.length_toList]; exact h)

theorem refDecode_ev (s : ByteArray) (h : s.size ≠ 0) : Ev (fun k => atriumref15_Decode.f k s) (((Utf8.decode s 0).1 : Int), ((Utf8.decode s 0).2 : Int)) := by
  simp only [atriumref15_Decode.f, if_neg (fun h' => h ((toList_nil s).1 h'))]
  exact refDecode_l0 s (by omega)

/-- What stands from p on. -/
def from_ (s : ByteArray) (p : Nat) : ByteArray := s.extract p s.size
theorem from_size (s : ByteArray) (p : Nat) : (from_ s p).size = s.size - p := by simp [from_, ByteArray.size_extract]
theorem from_zero (s : ByteArray) : from_ s 0 = s := by
  apply data_inj
  have hl : s.data.toList.length = s.size := Array.length_toList
  rw [from_, ByteArray.data_extract, Array.toList_extract, List.extract_eq_take_drop, List.drop_zero, Nat.sub_zero, List.take_of_length_le (by omega)]
theorem from_from (s : ByteArray) (p q : Nat) : (from_ s p).extract q (from_ s p).size = from_ s (p + q) := by
  apply data_inj
  have hl : s.data.toList.length = s.size := Array.length_toList
  rw [from_size]
  simp only [from_, ByteArray.data_extract, Array.toList_extract, List.extract_eq_take_drop]
  rw [List.take_of_length_le (l := s.data.toList.drop p) (by rw [List.length_drop]; omega), List.drop_drop, List.take_of_length_le (by rw [List.length_drop]; omega), List.take_of_length_le (by rw [List.length_drop]; omega)]

theorem runesOf_loop (s : ByteArray) (f : Nat) : ∀ (p : Nat) (acc : List Int), s.size ≤ p + f → p ≤ s.size → acc.length + (rnFrom s f p).length < 35184372088832 →
    Ev (fun k => atriumref15_Runes.l0 k (from_ s p) acc) (acc ++ (rnFrom s f p).map fun x => (x.1 : Int)) := by
  induction f with
  | zero =>
    intro p acc h1 h2 h3
    refine Ev.step (fun k => by simp only [atriumref15_Runes.l0]; exact rfl) ?_
    simp only [if_pos ((toList_nil (from_ s p)).2 (by rw [from_size]; omega)), rnFrom, List.map_nil, List.append_nil]
    exact Ev.now _
  | succ f ih =>
    intro p acc h1 h2 h3
    by_cases hp : p < s.size
    · have hd := dec_pos s p hp
      have hf := dec_fits s p hp
      have he : Utf8.decode (from_ s p) 0 = Utf8.decode s p := decode_extract s p hp
      have hz := from_size s p
      simp only [rnFrom, hp, if_true, List.length_cons] at h3
      refine Ev.step (fun k => by simp only [atriumref15_Runes.l0]; exact rfl) ?_
      simp only [if_neg (fun h' => absurd ((toList_nil (from_ s p)).1 h') (by omega))]
      refine Ev.bind (refDecode_ev (from_ s p) (by omega)) ?_
      simp only [he, if_pos (show acc.length < 35184372088832 by omega), if_pos (show (0 : Int) ≤ ((Utf8.decode s p).2 : Int) by omega), if_pos (show ((Utf8.decode s p).2 : Int) ≤ ((from_ s p).size : Int) by omega), Int.toNat_natCast, from_from]
      have := ih (p + (Utf8.decode s p).2) (acc ++ [((Utf8.decode s p).1 : Int)]) (by omega) hf (by simp; omega)
      simp only [rnFrom, hp, if_true, List.map_cons]
      rw [show acc ++ ((Utf8.decode s p).1 : Int) :: List.map (fun x => (x.1 : Int)) (rnFrom s f (p + (Utf8.decode s p).2)) = acc ++ [((Utf8.decode s p).1 : Int)] ++ List.map (fun x => (x.1 : Int)) (rnFrom s f (p + (Utf8.decode s p).2)) by simp]
      exact this
    · refine Ev.step (fun k => by simp only [atriumref15_Runes.l0]; exact rfl) ?_
      simp only [if_pos ((toList_nil (from_ s p)).2 (by rw [from_size]; omega)), rnFrom_end s _ p hp, List.map_nil, List.append_nil]
      exact Ev.now _

theorem refRunes_ev (s : ByteArray) (hs : s.size < 35184372088832) : Ev (fun k => atriumref15_Runes.f k s) (runeInts s) := by
  have h := runesOf_loop s s.size 0 [] (by omega) (by omega) (by have := rnFrom_len s s.size 0 (by omega); simp; omega)
  rw [from_zero] at h
  exact h

theorem valid_loop (s : ByteArray) (f : Nat) : ∀ (p : Nat), s.size ≤ p + f → p ≤ s.size → Ev (fun k => atriumref15_Valid.l0 k (from_ s p)) ((rnFrom s f p).all okRune) := by
  induction f with
  | zero =>
    intro p h1 h2
    refine Ev.step (fun k => by simp only [atriumref15_Valid.l0]; exact rfl) ?_
    simp only [if_pos ((toList_nil (from_ s p)).2 (by rw [from_size]; omega)), rnFrom, List.all_nil]
    exact Ev.now _
  | succ f ih =>
    intro p h1 h2
    by_cases hp : p < s.size
    · have hd := dec_pos s p hp
      have hf := dec_fits s p hp
      have he : Utf8.decode (from_ s p) 0 = Utf8.decode s p := decode_extract s p hp
      have hz := from_size s p
      refine Ev.step (fun k => by simp only [atriumref15_Valid.l0]; exact rfl) ?_
      simp only [if_neg (fun h' => absurd ((toList_nil (from_ s p)).1 h') (by omega))]
      refine Ev.bind (refDecode_ev (from_ s p) (by omega)) ?_
      have hn := ih (p + (Utf8.decode s p).2) (by omega) hf
      simp only [he, if_pos (show (0 : Int) ≤ ((Utf8.decode s p).2 : Int) by omega), if_pos (show ((Utf8.decode s p).2 : Int) ≤ ((from_ s p).size : Int) by omega), Int.toNat_natCast, from_from]
      simp only [rnFrom, hp, if_true, List.all_cons, okRune]
      by_cases e1 : (Utf8.decode s p).1 = 65533
      · by_cases e2 : (Utf8.decode s p).2 = 1
        · simp only [if_pos (show ((Utf8.decode s p).1 : Int) = 65533 by omega), if_pos (show ((Utf8.decode s p).2 : Int) = 1 by omega)]
          rw [show ((Utf8.decode s p).1 != 65533 || decide (1 < (Utf8.decode s p).2)) = false by simp [e1, e2]]
          exact Ev.now _
        · simp only [if_pos (show ((Utf8.decode s p).1 : Int) = 65533 by omega), if_neg (show ¬ ((Utf8.decode s p).2 : Int) = 1 by omega)]
          rw [show ((Utf8.decode s p).1 != 65533 || decide (1 < (Utf8.decode s p).2)) = true by simp [e1]; omega]
          exact hn
      · simp only [if_neg (show ¬ ((Utf8.decode s p).1 : Int) = 65533 by omega)]
        rw [show ((Utf8.decode s p).1 != 65533 || decide (1 < (Utf8.decode s p).2)) = true by simp [e1]]
        exact hn
    · refine Ev.step (fun k => by simp only [atriumref15_Valid.l0]; exact rfl) ?_
      simp only [if_pos ((toList_nil (from_ s p)).2 (by rw [from_size]; omega)), rnFrom_end s _ p hp, List.all_nil]
      exact Ev.now _

theorem refValid_ev (s : ByteArray) : Ev (fun k => atriumref15_Valid.f k s) ((rn s).all okRune) := by
  have h := valid_loop s s.size 0 (by omega) (by omega)
  rw [from_zero] at h
  exact h

theorem same_loop (l m : List Int) (hl : l.length = m.length) (hb : l.length ≤ 140737488355328) (d : Nat) : ∀ i, i + d = l.length → l.take i = m.take i → Ev (fun k => atriumlaw15_sameRunes.l0 k l m (i : Int)) (decide (l = m)) := by
  induction d with
  | zero =>
    intro i h1 h2
    refine Ev.step (fun k => by simp only [atriumlaw15_sameRunes.l0]; exact rfl) ?_
    simp only [if_neg (show ¬ (i : Int) < (l.length : Int) by omega)]
    rw [List.take_of_length_le (by omega), List.take_of_length_le (by omega)] at h2
    rw [decide_eq_true h2]
    exact Ev.now _
  | succ d ih =>
    intro i h1 h2
    have e1 : l.take (i + 1) = l.take i ++ [rd l i] := by rw [List.take_succ_eq_append_getElem (by omega)]; simp [rd, List.getD, show i < l.length by omega]
    have e2 : m.take (i + 1) = m.take i ++ [rd m i] := by rw [List.take_succ_eq_append_getElem (by omega)]; simp [rd, List.getD, show i < m.length by omega]
    refine Ev.step (fun k => by simp only [atriumlaw15_sameRunes.l0]; exact rfl) ?_
    simp only [if_pos (show (i : Int) < (l.length : Int) by omega), if_pos (show (0 : Int) ≤ (i : Int) by omega), if_pos (show (i : Int) < (m.length : Int) by omega), wrap64_succ (show i < 9223372036854775807 by omega)]
    by_cases he : rd l i = rd m i
    · simp only [if_pos he]
      exact ih (i + 1) (by omega) (by rw [e1, e2, h2, he])
    · simp only [if_neg he]
      have : l ≠ m := fun h => he (by rw [h])
      rw [decide_eq_false this]
      exact Ev.now _

theorem sameRunes_ev (l m : List Int) (hb : l.length ≤ 140737488355328) : Ev (fun k => atriumlaw15_sameRunes.f k l m) (decide (l = m)) := by
  simp only [atriumlaw15_sameRunes.f]
  by_cases hl : l.length = m.length
  · simp only [if_pos (show (l.length : Int) = (m.length : Int) by omega)]
    exact same_loop l m hl hb l.length 0 (by omega) rfl
  · simp only [if_neg (show ¬ (l.length : Int) = (m.length : Int) by omega)]
    rw [decide_eq_false (fun h => hl (by rw [h]))]
    exact Ev.now _
end Go.Proofs.Ytkekkabelnmlnaa.Pure
