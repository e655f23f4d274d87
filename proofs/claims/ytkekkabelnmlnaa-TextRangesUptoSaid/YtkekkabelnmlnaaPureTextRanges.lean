/- Proves that a text is right just if Go's own range tells no wrong byte, that its runes are what range tells, and that their UTF-8 is the text just if it is right. Condition: the text has at most 1048576 bytes (the second form: a text of more than 2^46 runes has no slice of runes). -/
import Derived.Test.YtkekkabelnmlnaaPureTextEncodes
namespace Go.Proofs.Ytkekkabelnmlnaa.Pure
set_option linter.unusedVariables false
open Go.RowKit Go.Proofs.Ytkekkabelnmlnaa Go.Proofs.Ytkekkabelnmlnaa.PT Go.Proofs.YtkekkabelnmlnaaW.PrintWords Go.Proofs.YtkekkabelnmlnaaW.PrintLast

theorem dec0_bad (s : ByteArray) (h0 : 0 < s.size) (h : okRune (Utf8.decode s 0) = false) : Utf8.decode s 0 = (65533, 1) := by
  simp only [okRune, Bool.or_eq_false_iff, bne_eq_false_iff_eq, decide_eq_false_iff_not] at h
  have h1 := dec_pos s 0 h0
  exact Prod.ext h.1 (by simp only; omega)

set_option maxRecDepth 100000 in
theorem dec0_ok (s : ByteArray) (h0 : 0 < s.size) (h : okRune (Utf8.decode s 0) = true) :
    Utf8.valid ((Utf8.decode s 0).1 : Int) = true ∧ (Utf8.encode ((Utf8.decode s 0).1 : Int)).data.toList = s.data.toList.take (Utf8.decode s 0).2 := by
  have q0 := byteN_lt s 0
  have q1 := byteN_lt s 1
  have q2 := byteN_lt s 2
  have q3 := byteN_lt s 3
  have fin : ∀ (n m : Nat), m ≤ s.size → Utf8.valid (n : Int) = true → encN n = (List.range m).map (byteN s) → Utf8.decode s 0 = (n, m) →
      Utf8.valid ((Utf8.decode s 0).1 : Int) = true ∧ (Utf8.encode ((Utf8.decode s 0).1 : Int)).data.toList = s.data.toList.take (Utf8.decode s 0).2 := by
    intro n m hm hv he hd
    rw [hd]
    refine ⟨hv, ?_⟩
    rw [encode_data _ hv, Int.toNat_natCast, he, take_bytes s m hm, List.map_map]; rfl
  have nok : okRune (65533, 1) = false := by decide
  have d0 := dec0 s h0
  by_cases hlt : byteN s 0 < 128
  · rw [if_pos hlt] at d0
    refine fin _ 1 (by omega) ?_ ?_ d0
    · rw [validRune_eq]; unfold validRune; simp; omega
    · unfold encN; rw [if_pos hlt]; rfl
  rw [if_neg hlt] at d0
  by_cases hx : byteN s 0 / 32 = 6 ∧ 1 < s.size ∧ byteN s 1 / 64 = 2
  · rw [if_pos hx] at d0
    by_cases hc : 128 ≤ c2 s
    · rw [if_pos hc] at d0
      have i2 := (enc2_iff (byteN s 0) (byteN s 1) q0 q1 (by omega)).2 ⟨hx.1, hx.2.2, hc⟩
      have e : ((byteN s 0 : Int) - 192) * 64 + (byteN s 1 : Int) - 128 = (c2 s : Int) := by unfold c2; omega
      rw [e, Int.toNat_natCast] at i2
      exact fin _ 2 (by omega) i2.1 i2.2 d0
    · rw [if_neg hc] at d0; rw [d0, nok] at h; cases h
  rw [if_neg hx] at d0
  by_cases hy : (byteN s 0 / 16 = 14 ∧ 1 < s.size ∧ byteN s 1 / 64 = 2) ∧ 2 < s.size ∧ byteN s 2 / 64 = 2
  · rw [if_pos hy] at d0
    by_cases hc : 2048 ≤ c3 s ∧ Utf8.valid (c3 s : Int) = true
    · rw [if_pos hc] at d0
      have i3 := (enc3_iff (byteN s 0) (byteN s 1) (byteN s 2) q0 q1 q2 (by omega)).2 ⟨hy.1.1, hy.1.2.2, hy.2.2, hc.1, hc.2⟩
      have e : ((byteN s 0 : Int) - 224) * 4096 + ((byteN s 1 : Int) - 128) * 64 + (byteN s 2 : Int) - 128 = (c3 s : Int) := by unfold c3; omega
      rw [e, Int.toNat_natCast] at i3
      exact fin _ 3 (by omega) i3.1 i3.2 d0
    · rw [if_neg hc] at d0; rw [d0, nok] at h; cases h
  rw [if_neg hy] at d0
  by_cases hz : ((byteN s 0 / 8 = 30 ∧ 1 < s.size ∧ byteN s 1 / 64 = 2) ∧ 2 < s.size ∧ byteN s 2 / 64 = 2) ∧ 3 < s.size ∧ byteN s 3 / 64 = 2
  · rw [if_pos hz] at d0
    by_cases hc : 65536 ≤ c4 s ∧ Utf8.valid (c4 s : Int) = true
    · rw [if_pos hc] at d0
      have i4 := (enc4_iff (byteN s 0) (byteN s 1) (byteN s 2) (byteN s 3) q0 q1 q2 q3 (by omega)).2 ⟨hz.1.1.1, hz.1.1.2.2, hz.1.2.2, hz.2.2, hc.1, hc.2⟩
      have e : ((byteN s 0 : Int) - 240) * 262144 + ((byteN s 1 : Int) - 128) * 4096 + ((byteN s 2 : Int) - 128) * 64 + (byteN s 3 : Int) - 128 = (c4 s : Int) := by unfold c4; omega
      rw [e, Int.toNat_natCast] at i4
      exact fin _ 4 (by omega) i4.1 i4.2 d0
    · rw [if_neg hc] at d0; rw [d0, nok] at h; cases h
  · rw [if_neg hz] at d0; rw [d0, nok] at h; cases h

theorem from_data (s : ByteArray) (p : Nat) : (from_ s p).data.toList = s.data.toList.drop p := by
  have hl : s.data.toList.length = s.size := Array.length_toList
  rw [from_, ByteArray.data_extract, Array.toList_extract, List.extract_eq_take_drop, List.take_of_length_le (by rw [List.length_drop]; omega)]

theorem dec_ok (s : ByteArray) (p : Nat) (hp : p < s.size) (h : okRune (Utf8.decode s p) = true) :
    Utf8.valid ((Utf8.decode s p).1 : Int) = true ∧ (Utf8.encode ((Utf8.decode s p).1 : Int)).data.toList = (s.data.toList.drop p).take (Utf8.decode s p).2 := by
  have he : Utf8.decode (from_ s p) 0 = Utf8.decode s p := decode_extract s p hp
  have hz := from_size s p
  have := dec0_ok (from_ s p) (by omega) (by rw [he]; exact h)
  rw [he, from_data] at this
  exact this
theorem dec_bad (s : ByteArray) (p : Nat) (hp : p < s.size) (h : okRune (Utf8.decode s p) = false) : Utf8.decode s p = (65533, 1) := by
  have he : Utf8.decode (from_ s p) 0 = Utf8.decode s p := decode_extract s p hp
  have hz := from_size s p
  have := dec0_bad (from_ s p) (by omega) (by rw [he]; exact h)
  rw [he] at this
  exact this
theorem enc_bad_len : (Utf8.encode ((65533 : Nat) : Int)).data.toList.length = 3 := by decide +kernel
theorem valid_bad : Utf8.valid ((65533 : Nat) : Int) = true := by decide +kernel
theorem dec_valid (s : ByteArray) (p : Nat) (hp : p < s.size) : Utf8.valid ((Utf8.decode s p).1 : Int) = true := by
  cases h : okRune (Utf8.decode s p) with
  | true => exact (dec_ok s p hp h).1
  | false => rw [dec_bad s p hp h]; exact valid_bad

def intsOf (l : List (Nat × Nat)) : List Int := l.map fun x => (x.1 : Int)

theorem rnFrom_valid (s : ByteArray) (f : Nat) : ∀ p, (intsOf (rnFrom s f p)).all Utf8.valid = true := by
  induction f with
  | zero => intro p; rfl
  | succ f ih =>
    intro p
    by_cases hp : p < s.size
    · simp only [rnFrom, hp, if_true, intsOf, List.map_cons, List.all_cons, dec_valid s p hp, Bool.true_and]
      exact ih _
    · rw [rnFrom_end s _ p hp]; rfl

theorem utf_len (s : ByteArray) (f : Nat) : ∀ p, s.size ≤ p + f → p ≤ s.size → s.size - p ≤ (utfBytes (intsOf (rnFrom s f p))).length ∧
    ((rnFrom s f p).all okRune = false → s.size - p < (utfBytes (intsOf (rnFrom s f p))).length) ∧
    ((rnFrom s f p).all okRune = true → utfBytes (intsOf (rnFrom s f p)) = s.data.toList.drop p) := by
  have hl : s.data.toList.length = s.size := Array.length_toList
  induction f with
  | zero =>
    intro p h1 h2
    refine ⟨by omega, fun h => by simp [rnFrom] at h, fun _ => ?_⟩
    rw [List.drop_eq_nil_of_le (by omega)]; rfl
  | succ f ih =>
    intro p h1 h2
    by_cases hp : p < s.size
    · have hd := dec_pos s p hp
      have hf := dec_fits s p hp
      obtain ⟨i1, i2, i3⟩ := ih (p + (Utf8.decode s p).2) (by omega) hf
      have e : utfBytes (intsOf (rnFrom s (f + 1) p)) = (Utf8.encode ((Utf8.decode s p).1 : Int)).data.toList ++ utfBytes (intsOf (rnFrom s f (p + (Utf8.decode s p).2))) := by
        simp only [rnFrom, hp, if_true, intsOf, utfBytes, List.map_cons, List.flatMap_cons]
      have ha : (rnFrom s (f + 1) p).all okRune = (okRune (Utf8.decode s p) && (rnFrom s f (p + (Utf8.decode s p).2)).all okRune) := by simp only [rnFrom, hp, if_true, List.all_cons]
      rw [e, ha, List.length_append]
      cases h : okRune (Utf8.decode s p) with
      | true =>
        have hk := (dec_ok s p hp h).2
        have hkl : (Utf8.encode ((Utf8.decode s p).1 : Int)).data.toList.length = (Utf8.decode s p).2 := by rw [hk, List.length_take, List.length_drop]; omega
        refine ⟨by omega, fun h' => ?_, fun h' => ?_⟩
        · have := i2 (by simpa using h'); omega
        · rw [i3 (by simpa using h'), hk, ← List.drop_drop, List.take_append_drop]
      | false =>
        have hb := dec_bad s p hp h
        rw [hb] at i1 i2 i3 ⊢
        have h3 := enc_bad_len
        refine ⟨by simp only at *; omega, fun _ => by simp only at *; omega, fun h' => by simp at h'⟩
    · rw [rnFrom_end s _ p hp]
      refine ⟨by omega, fun h => by simp at h, fun _ => ?_⟩
      rw [List.drop_eq_nil_of_le (by omega)]; rfl

/-- The UTF-8 of a text's runes is the text just if it is right. -/
theorem utf_back (s : ByteArray) : decide ((utfText (runeInts s)).toList = s.toList) = (rn s).all okRune := by
  have hl : s.data.toList.length = s.size := Array.length_toList
  obtain ⟨_, h2, h3⟩ := utf_len s s.size 0 (by omega) (by omega)
  have e : (utfText (runeInts s)).data.toList = utfBytes (intsOf (rnFrom s s.size 0)) := rfl
  rw [ByteArray.toList_eq, ByteArray.toList_eq, e]
  cases h : (rn s).all okRune with
  | true => rw [h3 h, List.drop_zero]; simp
  | false =>
    have := h2 h
    rw [decide_eq_false]
    intro hh
    rw [hh] at this
    omega

theorem runes_text (s : ByteArray) : textRes (runeInts s) = (utfText (runeInts s), 0) := by
  have : okRunes (runeInts s) = true := by
    unfold okRunes
    rw [show Lib.validRune = Utf8.valid from funext libValid]
    exact rnFrom_valid s s.size 0
  unfold textRes
  rw [if_pos this]; rfl
end Go.Proofs.Ytkekkabelnmlnaa.Pure
