/- Walk: Text, the UTF-8 of a list of runes through a Builder. -/
import Derived.Test.YtkekkabelnmlnaaTxC
import Derived.Test.YtkekkabelnmlnaaWWords
namespace Go.Proofs.Ytkekkabelnmlnaa
open Go Go.RowKit Go.Proofs.YtkekkabelnmlnaaW.PrintWords
set_option linter.unusedVariables false

def okRunes (l : List Int) : Bool := l.all Lib.validRune
def utfBytes (l : List Int) : List UInt8 := l.flatMap fun r => (Utf8.encode r).data.toList
def textRes (l : List Int) : ByteArray × Int := if okRunes l = true then (⟨(utfBytes l).toArray⟩, 0) else (⟨#[]⟩, 150)

theorem encode_size (r : Int) : (Utf8.encode r).size ≤ 4 := by
  unfold Utf8.encode
  simp only
  repeat' split
  all_goals first | (show (1 : Nat) ≤ 4; omega) | (show (2 : Nat) ≤ 4; omega) | (show (3 : Nat) ≤ 4; omega) | (show (4 : Nat) ≤ 4; omega)

theorem utfBytes_snoc (l : List Int) (r : Int) : utfBytes (l ++ [r]) = utfBytes l ++ (Utf8.encode r).data.toList := by simp [utfBytes]
theorem utfBytes_len (l : List Int) : (utfBytes l).length ≤ 4 * l.length := by
  induction l with
  | nil => simp [utfBytes]
  | cons r l ih =>
    have h1 := encode_size r
    have h2 : (Utf8.encode r).data.toList.length = (Utf8.encode r).size := Array.length_toList
    simp only [utfBytes, List.flatMap_cons, List.length_append, List.length_cons] at *
    omega

theorem fresh_builder (w : World) : BldF w.heap.size w.heap.size [] (w.alloc (.cells #[.pointer none, .slice none 0 0] 52)) := Lib.IsBuilderF.of (Lib.fresh_isBuilder 52 5 w)

theorem take_snoc_i (l : List Int) (k : Nat) (h : k < l.length) : l.take (k + 1) = l.take k ++ [l.getD k 0] := by
  rw [List.take_succ_eq_append_getElem h]; simp [List.getD, h]

def RetText (p : ByteArray × Int) (e : Ending) : Prop := e = .returned (.tuple #[.string p.1, .int .i64 p.2])

set_option maxHeartbeats 2000000 in
theorem text_any (A : Option Addr) (c : Nat) (l : List Int) (w : World) (hr : Kd.C (Kd.int .i32) w A l.length l) (hc : l.length ≤ c) (hl : l.length * 4 ≤ 140737488355328) :
    Calls Try.prog 25 #[.slice A l.length c] w fun e w' => RetText (textRes l) e ∧ Below w.heap.size w w' := by
  have HR := Lib.hid hr
  have Hl := Lib.hid hl
  have hmax : l.length ≤ 9223372036854775807 := by omega
  clear hr hl
  go_enter Try.func25, Try.ntmps25
  go_wp2
  go_loopw [11] (fun i wr => ∃ k : Nat, k ≤ l.length ∧ i = .int .i64 k ∧ Hid (BldF w.heap.size w.heap.size (Lib.byteCells (utfBytes (l.take k))) wr) ∧ Hid (Below w.heap.size w wr) ∧ Hid (okRunes (l.take k) = true)) (fun i _ => l.length - (intOf i).toNat)
  case atStart => exact ⟨0, by omega, rfl, fresh_builder w, (Below.refl _ w).alloc (Nat.le_refl _) _, rfl⟩
  case round =>
    obtain ⟨k, hk, rfl, hB, hb, hok⟩ := hrel
    by_cases hp : k < l.length
    · obtain ⟨ad, rfl, hcell⟩ := Kd.at_int HR.out (k : Int) (by omega) (by omega)
      have hcell2 := pw_cell_below hb.out hcell
      simp only [Int.toNat_natCast, rd] at hcell2
      have Hts := Lib.hid (take_snoc_i l k hp)
      clear hcell
      generalize hr : l.getD k 0 = r at *
      have Hr := Lib.hid hr
      clear hr
      cases hv : Lib.validRune r with
      | false =>
        go_wp2_with (go_at_call 27; refine (encode_any _ _).mono ?_; rintro e w' ⟨rfl, rfl⟩; rw [hv])
        go_ret2
        refine ⟨?_, hb.out⟩
        have : okRunes l = false := by
          have h1 : okRunes (l.take (k + 1)) = false := by rw [Hts.out]; simp [okRunes, hv]
          cases h2 : okRunes l with
          | false => rfl
          | true =>
            have : okRunes (l.take (k + 1)) = true := by
              simp only [okRunes, List.all_eq_true] at h2 ⊢
              exact fun x hx => h2 x (List.mem_of_mem_take hx)
            rw [h1] at this; cases this
        simp only [textRes, this]; rfl
      | true =>
        have hlen := utfBytes_len (l.take k)
        have htl : (l.take k).length = k := by rw [List.length_take]; omega
        have hes := encode_size r
        have hbs := hb.out.size
        have hbl : (Lib.byteCells (utfBytes (l.take k))).length + (Utf8.encode r).size ≤ 140737488355328 := by
          rw [Lib.byteCells_length]; have := Hl.out; omega
        go_wp2_with (first | (go_at_call 27; refine (encode_any _ _).mono ?_; rintro e w' ⟨rfl, rfl⟩; rw [hv]) | (go_at_call 41; refine (bld_WriteString w.heap.size w.heap.size _ _ _ hB.out hbl hbs).mono ?_))
        rintro e w1 ⟨rfl, hB1, hb1, _⟩
        have HB1 := Lib.hid hB1
        have Hb1 := Lib.hid (hb.out.trans hb1)
        clear hB1 hb1
        go_wp2
        go_roundw
        case rel =>
          refine ⟨k + 1, by omega, by go_num, ?_, Hb1.out, ?_⟩
          · rw [Hts.out, utfBytes_snoc, Lib.byteCells_append, ← Lib.strCells_eq]
            exact Or.inr HB1.out
          · rw [Hts.out]; simp only [okRunes, List.all_append, List.all_cons, List.all_nil, hv, Bool.and_true]; exact hok.out
        case measure => simp [intOf]; omega
    · have Hfull := Lib.hid (List.take_of_length_le (l := l) (i := k) (by omega))
      have hbs := hb.out.size
      go_wp2_with (go_at_call 42; refine (Try.Builder_String_any_k w.heap.size w.heap.size _ _ hB.out hbs).mono ?_)
      rintro e w1 ⟨rfl, _, hb1, _⟩
      have Hb1 := Lib.hid (hb.out.trans hb1)
      clear hb1
      go_wp2
      go_ret2
      refine ⟨?_, Hb1.out⟩
      have h1 := hok.out
      rw [Hfull.out] at h1 ⊢
      simp only [textRes, h1, if_true]; rfl
end Go.Proofs.Ytkekkabelnmlnaa
