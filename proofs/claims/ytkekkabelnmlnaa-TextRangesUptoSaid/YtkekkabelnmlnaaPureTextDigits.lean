/- Proves that the number that the program reads from any text, and the fault that it tells, are the document's, for every text and every bound. Conditions: none but the form's own reach of a string. -/
import Derived.Test.YtkekkabelnmlnaaPTx3
import Derived.Test.YtkekkabelnmlnaaPc
namespace Go.Proofs.Ytkekkabelnmlnaa.Pure
open Go.RowKit Go.Proofs.Ytkekkabelnmlnaa Go.Proofs.Ytkekkabelnmlnaa.PT Go.Proofs.YtkekkabelnmlnaaW.PrintWords Go.Proofs.YtkekkabelnmlnaaW.PrintLast

theorem lives_ev : Ev (fun k => atriumlaw15_lives.f k) true := Ev.of atriumlaw15_lives.mono (k := 20) (by decide +kernel)

theorem refDigit_byte (c : UInt8) : atriumref15_digit.f (c.toNat : Int) = some (isDig c) :=
  of_decide_eq_true (byte_all (fun c => decide (atriumref15_digit.f (c.toNat : Int) = some (isDig c))) (by decide +kernel) c)

def digEnd (s : ByteArray) (most : Int) : Int × Int := if s.data.toList.all isDig = true then (if most < (digVal s.data.toList : Int) then (0, 3) else ((digVal s.data.toList : Int), 0)) else (0, 150)

theorem refDigits_loop (s : ByteArray) (most : Int) (hs : s.size ≤ 18) (d : Nat) : ∀ i, i + d = s.size → (s.data.toList.take i).all isDig = true →
    Ev (fun k => atriumref15_Digits.l0 k s most (digVal (s.data.toList.take i) : Int) (i : Int)) (digEnd s most) := by
  have hl : s.data.toList.length = s.size := Array.length_toList
  induction d with
  | zero =>
    intro i hi hall
    refine Ev.step (fun k => by simp only [atriumref15_Digits.l0]; exact rfl) ?_
    simp only [if_neg (show ¬ (i : Int) < (s.size : Int) by omega)]
    rw [List.take_of_length_le (by omega)] at hall ⊢
    unfold digEnd
    rw [if_pos hall]
    by_cases hm : most < (digVal s.data.toList : Int)
    · simp only [gt_iff_lt, if_pos hm]; exact Ev.now _
    · simp only [gt_iff_lt, if_neg hm]; exact Ev.now _
  | succ d ih =>
    intro i hi hall
    obtain ⟨b, hb, ht, hbe⟩ := bt_nat' s i (by omega)
    refine Ev.step (fun k => by simp only [atriumref15_Digits.l0]; exact rfl) ?_
    simp only [if_pos (show (i : Int) < (s.size : Int) by omega), if_pos (show (0 : Int) ≤ (i : Int) by omega), hb, refDigit_byte, Option.bind_some]
    cases hd : isDig b with
    | true =>
      have hc : 48 ≤ b.toNat ∧ b.toNat ≤ 57 := by simpa [isDig] using hd
      have hlt := digVal_le17 (s.data.toList.take i) hall (by rw [List.length_take]; omega)
      have hv := digVal_snoc (s.data.toList.take i) b
      simp only [if_true, wrap64_succ (show i < 9223372036854775807 by omega)]
      rw [show wrap64 (wrap64 (10 * (digVal (s.data.toList.take i) : Int)) + ((b.toNat : Int) - 48) % 256) = (digVal (s.data.toList.take (i + 1)) : Int) by
        have e1 : wrap64 (10 * (digVal (s.data.toList.take i) : Int)) = 10 * (digVal (s.data.toList.take i) : Int) := wrap64_id (by omega) (by omega)
        rw [ht, hv, e1, wrap64_id (by omega) (by omega)]; omega]
      exact ih (i + 1) (by omega) (by rw [ht, List.all_append, hall]; simp [hd])
    | false =>
      have : s.data.toList.all isDig = false := all_false_at s i (by omega) (by rw [← hbe]; exact hd)
      simp only [Bool.false_eq_true, if_false, digEnd, this]
      exact Ev.now _

theorem refDigits_ev (s : ByteArray) (most : Int) : Ev (fun k => atriumref15_Digits.f k s most) (digitsRes s most) := by
  unfold digitsRes
  simp only [atriumref15_Digits.f]
  by_cases h1 : s.size < 1
  · simp only [if_pos (show (s.size : Int) < 1 by omega), if_pos h1]
    exact Ev.step (fun k => by simp only [atriumref15_Digits.j0]; exact rfl) (Ev.now _)
  simp only [if_neg (show ¬ (s.size : Int) < 1 by omega), if_neg h1]
  by_cases h2 : 18 < s.size
  · simp only [if_pos (show (s.size : Int) > 18 by omega), if_pos h2]
    exact Ev.step (fun k => by simp only [atriumref15_Digits.j0]; exact rfl) (Ev.now _)
  simp only [if_neg (show ¬ (s.size : Int) > 18 by omega), if_neg h2]
  have hloop : Ev (fun k => atriumref15_Digits.j0 k s most false) (digEnd s most) :=
    Ev.step (fun k => by simp only [atriumref15_Digits.j0]; exact rfl) (refDigits_loop s most (by omega) s.size 0 (by omega) rfl)
  by_cases h3 : 1 < s.size
  · have hb : (bt s 0 == 48) = headNought s := by
      have h0 := bt_nat s 0 (by omega)
      rw [show bt s 0 = ((s[0]'(by omega)).toNat : Int) from h0]
      unfold headNought
      rw [head_byte s (by omega), Bool.eq_iff_iff, beq_iff_eq, decide_eq_true_eq, Option.some.injEq]
      exact ⟨fun h => UInt8.toNat_inj.mp (by simpa using (by omega : (s[0]'(by omega)).toNat = 48)), fun h => by rw [h]; rfl⟩
    simp only [if_pos (show (s.size : Int) > 1 by omega), if_pos (show (0 : Int) < (s.size : Int) by omega), hb]
    cases hh : headNought s with
    | true =>
      rw [if_pos ⟨h3, rfl⟩]
      exact Ev.step (fun k => by simp only [atriumref15_Digits.j0]; exact rfl) (Ev.now _)
    | false =>
      rw [if_neg (by simp)]
      exact hloop
  · simp only [if_neg (show ¬ (s.size : Int) > 1 by omega)]
    rw [if_neg (by omega)]
    exact hloop

theorem TextDigits : atriumlaw15_TextDigits.Pure := by
  intro s most _ _
  refine Ev.rounds (g := fun k => atriumlaw15_TextDigits.f k s most) ?_
  simp only [atriumlaw15_TextDigits.f, text_Digits.f, Option.bind_some]
  refine Ev.bind (refDigits_ev s most) (Ev.bind lives_ev ?_)
  simp only [if_true, beq_self_eq_true]
  exact Ev.now _

end Go.Proofs.Ytkekkabelnmlnaa.Pure
