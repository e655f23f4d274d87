/- Proves that the program tells the UTF-8 of any list of numbers, or that one of them is no rune, as the document does; that the runes of that text are the list; and that the list stays as it was. Conditions: none but the form's own reach of a slice. -/
import Derived.Test.YtkekkabelnmlnaaPTx8
import Derived.Test.YtkekkabelnmlnaaPureRunes
import Derived.Test.YtkekkabelnmlnaaPureTextDigits
namespace Go.Proofs.Ytkekkabelnmlnaa.Pure
set_option linter.unusedVariables false
open Go.RowKit Go.Proofs.Ytkekkabelnmlnaa Go.Proofs.Ytkekkabelnmlnaa.PT Go.Proofs.YtkekkabelnmlnaaW.PrintWords Go.Proofs.YtkekkabelnmlnaaW.PrintLast

theorem libValid (r : Int) : Lib.validRune r = Utf8.valid r := by
  rw [validRune_eq]; rfl

theorem byteN_append (a b : ByteArray) (k : Nat) (h : k < a.size) : byteN (a ++ b) k = byteN a k := by
  have hl : a.data.toList.length = a.size := Array.length_toList
  unfold byteN
  rw [get_getD, get_getD, ba_append, List.getD_eq_getElem?_getD, List.getD_eq_getElem?_getD, List.getElem?_append_left (by omega)]

theorem byteN_encode (r : Int) (hv : Utf8.valid r = true) (k : Nat) (hk : k < (encN r.toNat).length) : byteN (Utf8.encode r) k = (encN r.toNat).getD k 0 := by
  obtain ⟨h0, hm⟩ := valid_le hv
  have hlt := encN_lt r.toNat (by omega) ((encN r.toNat).getD k 0) (by rw [List.getD_eq_getElem?_getD, List.getElem?_eq_getElem hk]; exact List.getElem_mem hk)
  unfold byteN
  rw [get_getD, encode_data r hv, List.getD_eq_getElem?_getD, List.getElem?_map, List.getElem?_eq_getElem hk]
  rw [List.getD_eq_getElem?_getD, List.getElem?_eq_getElem hk] at hlt ⊢
  simp only [Option.map_some, Option.getD_some, UInt8.toNat_ofNat'] at hlt ⊢
  omega

theorem encode_len (r : Int) (hv : Utf8.valid r = true) : (Utf8.encode r).size = (encN r.toNat).length := by
  have h : (Utf8.encode r).data.toList.length = (Utf8.encode r).size := Array.length_toList
  rw [← h, encode_data r hv, List.length_map]

set_option maxRecDepth 100000 in
theorem decode_encode (r : Int) (hv : Utf8.valid r = true) (b : ByteArray) : Utf8.decode (Utf8.encode r ++ b) 0 = (r.toNat, (Utf8.encode r).size) := by
  obtain ⟨h0, hm⟩ := valid_le hv
  have hsz := encode_len r hv
  have hs : (Utf8.encode r ++ b).size = (encN r.toNat).length + b.size := by rw [ByteArray.size_append, hsz]
  have hb : ∀ k, k < (encN r.toNat).length → byteN (Utf8.encode r ++ b) k = (encN r.toNat).getD k 0 := fun k hk => by
    rw [byteN_append _ _ _ (by rw [hsz]; exact hk), byteN_encode r hv k hk]
  generalize hn : r.toNat = n at *
  have hpos : 0 < (Utf8.encode r ++ b).size := by
    rw [hs]; have : 0 < (encN n).length := by unfold encN; split <;> (try split) <;> (try split) <;> simp
    omega
  have hvn : Utf8.valid (n : Int) = true := by rw [← hn, Int.toNat_of_nonneg h0]; exact hv
  rw [dec0 _ hpos]
  by_cases h1 : n < 128
  · have he : encN n = [n] := by rw [encN, if_pos h1]
    rw [he] at hb hsz
    have b0 := hb 0 (by simp)
    simp at b0
    rw [if_pos (by omega), b0, hsz]; rfl
  by_cases h2 : n < 2048
  · have he : encN n = [192 + n / 64, 128 + n % 64] := by rw [encN, if_neg h1, if_pos h2]
    rw [he] at hb hsz hs
    have b0 := hb 0 (by simp)
    have b1 := hb 1 (by simp)
    have hs' : (Utf8.encode r ++ b).size = 2 + b.size := hs
    simp at b0 b1
    have hc : c2 (Utf8.encode r ++ b) = n := by unfold c2; rw [b0, b1]; omega
    rw [if_neg (by omega), if_pos (by omega), hc, if_pos (by omega), hsz]; rfl
  by_cases h3 : n < 65536
  · have he : encN n = [224 + n / 4096, 128 + n / 64 % 64, 128 + n % 64] := by rw [encN, if_neg h1, if_neg h2, if_pos h3]
    rw [he] at hb hsz hs
    have b0 := hb 0 (by simp)
    have b1 := hb 1 (by simp)
    have b2 := hb 2 (by simp)
    have hs' : (Utf8.encode r ++ b).size = 3 + b.size := hs
    simp at b0 b1 b2
    have hc : c3 (Utf8.encode r ++ b) = n := by unfold c3; rw [b0, b1, b2]; omega
    rw [if_neg (by omega), if_neg (by omega), if_pos (by omega), hc, if_pos ⟨by omega, hvn⟩, hsz]; rfl
  · have he : encN n = [240 + n / 262144, 128 + n / 4096 % 64, 128 + n / 64 % 64, 128 + n % 64] := by rw [encN, if_neg h1, if_neg h2, if_neg h3]
    rw [he] at hb hsz hs
    have b0 := hb 0 (by simp)
    have b1 := hb 1 (by simp)
    have b2 := hb 2 (by simp)
    have b3 := hb 3 (by simp)
    have hs' : (Utf8.encode r ++ b).size = 4 + b.size := hs
    simp at b0 b1 b2 b3
    have hc : c4 (Utf8.encode r ++ b) = n := by unfold c4; rw [b0, b1, b2, b3]; omega
    rw [if_neg (by omega), if_neg (by omega), if_neg (by omega), if_pos (by omega), hc, if_pos ⟨by omega, hvn⟩, hsz]; rfl

def utfText (l : List Int) : ByteArray := ⟨(utfBytes l).toArray⟩
theorem utfText_size (l : List Int) : (utfText l).size = (utfBytes l).length := by
  have h : (utfText l).data.toList.length = (utfText l).size := Array.length_toList
  rw [← h]; simp [utfText]
theorem utfText_cons (r : Int) (l : List Int) : utfText (r :: l) = Utf8.encode r ++ utfText l := by
  apply data_inj; rw [ba_append]; simp [utfText, utfBytes]

theorem from_append (a b : ByteArray) : from_ (a ++ b) a.size = b := by
  apply data_inj
  have hl : a.data.toList.length = a.size := Array.length_toList
  have hb : b.data.toList.length = b.size := Array.length_toList
  rw [from_, ByteArray.data_extract, Array.toList_extract, List.extract_eq_take_drop, ba_append, ← hl, List.drop_left, List.take_of_length_le (by rw [ByteArray.size_append]; omega)]

theorem rn_utf (l : List Int) (hv : l.all Utf8.valid = true) : ∀ (a : ByteArray) (f : Nat), (a ++ utfText l).size ≤ a.size + f → (rnFrom (a ++ utfText l) f a.size).map (fun x => (x.1 : Int)) = l := by
  induction l with
  | nil =>
    intro a f _
    rw [rnFrom_end _ _ _ (by rw [ByteArray.size_append, utfText_size]; simp [utfBytes])]; rfl
  | cons r l ih =>
    intro a f hf
    simp only [List.all_cons, Bool.and_eq_true] at hv
    obtain ⟨h0, hm⟩ := valid_le hv.1
    have hz : 0 < (Utf8.encode r).size := by
      rw [encode_len r hv.1]; unfold encN; split <;> (try split) <;> (try split) <;> simp
    have hs : (a ++ utfText (r :: l)).size = a.size + (Utf8.encode r).size + (utfText l).size := by rw [utfText_cons, ByteArray.size_append, ByteArray.size_append]; omega
    have hp : a.size < (a ++ utfText (r :: l)).size := by omega
    obtain ⟨f, rfl⟩ : ∃ m, f = m + 1 := ⟨f - 1, by omega⟩
    have hd : Utf8.decode (a ++ utfText (r :: l)) a.size = (r.toNat, (Utf8.encode r).size) := by
      rw [← decode_extract _ _ hp]
      show Utf8.decode (from_ (a ++ utfText (r :: l)) a.size) 0 = _
      rw [from_append, utfText_cons, decode_encode r hv.1]
    simp only [rnFrom, hp, if_true, hd, List.map_cons, Int.toNat_of_nonneg h0]
    have he : a ++ utfText (r :: l) = (a ++ Utf8.encode r) ++ utfText l := by rw [utfText_cons]; apply data_inj; simp
    have h1 := ih hv.2 (a ++ Utf8.encode r) f (by rw [← he, hs, ByteArray.size_append]; rw [hs] at hf; omega)
    rw [← he, ByteArray.size_append] at h1
    rw [h1]

theorem runes_utf (l : List Int) (hv : l.all Utf8.valid = true) : runeInts (utfText l) = l := by
  have h := rn_utf l hv ⟨#[]⟩ (utfText l).size (by rw [ByteArray.size_append]; show 0 + _ ≤ _ + _; omega)
  have e : (⟨#[]⟩ : ByteArray) ++ utfText l = utfText l := by apply data_inj; rw [ba_append]; rfl
  rw [e] at h
  exact h

theorem refEncode_eq (r : Int) (hr : -2147483648 ≤ r ∧ r ≤ 2147483647) : atriumref15_Encode.f r = text_Encode.f r := by
  unfold atriumref15_Encode.f text_Encode.f
  rw [wrap64_id (by omega) (by omega), isRune_eq, Option.bind_some, libValid]
  cases hv : Utf8.valid r with
  | false => simp
  | true => simp [bytes_eq r hv]

theorem refText_loop (l : List Int) (hl : l.length * 4 ≤ 140737488355328) (hw : ∀ x ∈ l, -2147483648 ≤ x ∧ x ≤ 2147483647) (d : Nat) : ∀ i, i + d = l.length → okRunes (l.take i) = true →
    Ev (fun k => atriumref15_Text.l0 k l (utfText (l.take i)) (i : Int)) (textRes l) := by
  induction d with
  | zero =>
    intro i hi hok
    rw [List.take_of_length_le (by omega)] at hok ⊢
    refine Ev.step (fun k => by simp only [atriumref15_Text.l0]; exact rfl) ?_
    simp only [if_neg (show ¬ (i : Int) < (l.length : Int) by omega), textRes, hok, if_true]
    exact Ev.now _
  | succ d ih =>
    intro i hi hok
    have hts := take_snoc_i l i (by omega)
    have hmem : l.getD i 0 ∈ l := by rw [List.getD_eq_getElem?_getD, List.getElem?_eq_getElem (by omega)]; exact List.getElem_mem _
    have hsz := utfBytes_len (l.take i)
    have hes := encode_size (l.getD i 0)
    have htl : (l.take i).length = i := by rw [List.length_take]; omega
    refine Ev.step (fun k => by simp only [atriumref15_Text.l0]; exact rfl) ?_
    simp only [if_pos (show (i : Int) < (l.length : Int) by omega), if_pos (show (0 : Int) ≤ (i : Int) by omega), rd, Int.toNat_natCast, refEncode_eq _ (hw _ hmem), text_Encode.f, Option.bind_some, wrap64_succ (show i < 9223372036854775807 by omega)]
    cases hv : Lib.validRune (l.getD i 0) with
    | false =>
      have : okRunes l = false := by
        unfold okRunes
        rw [List.all_eq_false]
        exact ⟨_, hmem, by rw [hv]; simp⟩
      simp only [Bool.false_eq_true, if_false, textRes, this, show ¬ (150 : Int) = 0 by decide]
      exact Ev.now _
    | true =>
      simp only [if_true, if_pos (show (utfText (l.take i)).size + (Utf8.encode (l.getD i 0)).size ≤ 9223372036854775807 by rw [utfText_size]; omega)]
      have h1 := ih (i + 1) (by omega) (by rw [hts]; simp only [okRunes, List.all_append, List.all_cons, List.all_nil, hv, Bool.and_true]; exact hok)
      have e : utfText (l.take (i + 1)) = utfText (l.take i) ++ Utf8.encode (l.getD i 0) := by rw [hts]; apply data_inj; rw [ba_append]; simp [utfText, utfBytes_snoc]
      rw [e] at h1
      exact h1

theorem refText_ev (l : List Int) (hl : l.length * 4 ≤ 140737488355328) (hw : ∀ x ∈ l, -2147483648 ≤ x ∧ x ≤ 2147483647) : Ev (fun k => atriumref15_Text.f k l) (textRes l) :=
  refText_loop l hl hw l.length 0 (by omega) rfl

theorem i32_bounds {x : Int} (h : (Lit.int .i32 x).wf = true) : -2147483648 ≤ x ∧ x ≤ 2147483647 := by
  simpa [Lit.wf, IntKind.min, IntKind.max, IntKind.signed, IntKind.bits] using h

theorem encodes_tail (l : List Int) (hl : l.length * 4 ≤ 140737488351232) : Ev (fun k => atriumlaw15_TextEncodes.j0 k l (textRes l).1 (textRes l).2 false) true := by
  refine Ev.step (fun k => by simp only [atriumlaw15_TextEncodes.j0]; exact rfl) ?_
  cases hok : okRunes l with
  | false =>
    have e1 : (textRes l).2 = 150 := by simp only [textRes, hok, Bool.false_eq_true, if_false]
    have h150 : ¬ (textRes l).2 = 0 := by rw [e1]; omega
    simp only [Bool.false_eq_true, if_false, if_neg h150]
    exact Ev.now _
  | true =>
    have hv : l.all Utf8.valid = true := by
      rw [← hok]; unfold okRunes; congr 1; funext x; exact (libValid x).symm
    have hru := runes_utf l hv
    have hlen : (rn (utfText l)).length = l.length := by have := congrArg List.length hru; simpa [runeInts] using this
    have hsz := utfBytes_len l
    have hz := utfText_size l
    have e1 : (textRes l).2 = 0 := by simp only [textRes, hok, if_true]
    have e2 : (textRes l).1 = utfText l := by simp only [textRes, hok, if_true]; rfl
    have e3 : text_Runes.f (utfText l) = some l := by
      unfold text_Runes.f
      rw [if_pos (by omega), hru]
    rw [e1, e2]
    simp only [Bool.false_eq_true, if_false, if_true, e3, Option.bind_some]
    refine Ev.bind (sameRunes_ev l l (by omega)) ?_
    rw [decide_eq_true rfl]
    exact Ev.now _

theorem text_room (l : List Int) (hl : l.length * 4 ≤ 140737488351232) : text_Text.f l = some (textRes l) := by
  unfold text_Text.f
  rw [if_pos (by omega)]

theorem TextEncodes : atriumlaw15_TextEncodes.Pure := by
  intro l r _ hl hw hr
  refine Ev.rounds (g := fun k => atriumlaw15_TextEncodes.f k l r) ?_
  have hroom : ([] : List Int).length + l.length < 35184372088832 := by rw [List.length_nil]; omega
  simp only [atriumlaw15_TextEncodes.f]
  refine evBindc (a := ([] : List Int)) rfl (evIfPos hroom (evBindc (a := l) rfl (evBindc (text_room l hl) (Ev.bind (refText_ev l (by omega) (fun x hx => i32_bounds (hw x hx))) ?_))))
  have he := refEncode_eq r (i32_bounds hr)
  unfold text_Encode.f at he
  refine evBindc rfl (evBindc he (Ev.bind lives_ev (evIfPos rfl (evIfPos rfl (evIfPos rfl (evIfPos rfl (evIfPos rfl (Ev.bind (sameRunes_ev l l (by omega)) ?_))))))))
  rw [decide_eq_true rfl]
  exact encodes_tail l hl

end Go.Proofs.Ytkekkabelnmlnaa.Pure
