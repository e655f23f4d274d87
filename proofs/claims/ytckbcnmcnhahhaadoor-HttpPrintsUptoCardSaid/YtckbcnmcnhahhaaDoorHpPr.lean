/- HttpPrints: Print, Check and the document's in closed form; what is printed is parsed again; the plain law. -/
import Derived.Test.YtckbcnmcnhahhaaDoorHpQ
namespace Go.Proofs.YtckbcnmcnhahhaaDoor.Pure
open Go Go.RowKit Go.Proofs.YtckbcnmcnhahhaaDoor Go.Proofs.YtckbcnmcnhahhaaDoor.PP Go.Proofs.YtckbcnmcnhahhaaDoorW.PrintWords Go.Proofs.YtckbcnmcnhahhaaDoorW.PrintLast
set_option linter.unusedVariables false
set_option linter.unusedSimpArgs false

theorem toArr (l : List UInt8) : (⟨l.toArray⟩ : ByteArray).data.toList = l := List.toList_toArray
theorem rplain_loop (m t b : ByteArray) (c : Bool) (l : List S50) (hz : (upB m t l).length + 2 ≤ 9223372036854775807) (hl : l.length < 9223372036854775807) (d : Nat) :
    ∀ (i : Nat) (x : ByteArray), i + d = l.length → x.data.toList = upB m t (l.take i) → Ev (fun k => atriumref17_plain.l0 k x (i : Int) m t l b c) (⟨(upB m t l ++ [13, 10]).toArray⟩, b) := by
  induction d with
  | zero =>
    intro i x hi hx
    rw [List.take_of_length_le (by omega)] at hx
    have hs : x.size = (upB m t l).length := by rw [← hx]; exact (Array.length_toList).symm
    refine Ev.step (fun k => by simp only [atriumref17_plain.l0]; exact rfl) (evIfNeg (by omega) (evIfPos (by omega) ?_))
    have : x ++ ⟨#[13, 10]⟩ = (⟨(upB m t l ++ [13, 10]).toArray⟩ : ByteArray) := by apply row_data_inj; rw [str_app, hx, toArr]
    rw [this]
    exact Ev.now _
  | succ d ih =>
    intro i x hi hx
    have hlt : i < l.length := by omega
    have hks := upB_snoc m t l i hlt
    have hkt := upB_take m t l (i + 1)
    have hs : x.size = (upB m t (l.take i)).length := by rw [← hx]; exact (Array.length_toList).symm
    refine Ev.step (fun k => by simp only [atriumref17_plain.l0]; exact rfl) (evIfPos (by omega) (evIfPos (by omega) ?_))
    generalize rd_T50 l (i : Int) = F at *
    have hfl := fieldB_len F
    rw [hks, List.length_append, hfl] at hkt
    have a1 : (x ++ F.f0).size = x.size + F.f0.size := ByteArray.size_append
    have a2 : (x ++ F.f0 ++ ⟨#[58, 32]⟩).size = x.size + F.f0.size + 2 := by rw [ByteArray.size_append, a1]; rfl
    have a3 : (x ++ F.f0 ++ ⟨#[58, 32]⟩ ++ F.f1).size = x.size + F.f0.size + 2 + F.f1.size := by rw [ByteArray.size_append, a2]
    refine evIfPos (by omega) (evIfPos (by omega) (evIfPos (by omega) (evIfPos (by omega) ?_)))
    rw [wrap64_succ (by omega)]
    exact ih (i + 1) _ (by omega) (by rw [hks]; simp only [str_app, hx, fieldB, List.append_assoc])
theorem rplain_ev (m t b : ByteArray) (c : Bool) (l : List S50) (hz : (upB m t l).length + 2 ≤ 9223372036854775807) (hl : l.length < 9223372036854775807) :
    Ev (fun k => atriumref17_plain.f k m t l b c) (⟨(upB m t l ++ [13, 10]).toArray⟩, b) := by
  have hge := upB_ge m t l
  have a1 : (m ++ ⟨#[32]⟩).size = m.size + 1 := by rw [ByteArray.size_append]; rfl
  have a2 : (m ++ ⟨#[32]⟩ ++ t).size = m.size + 1 + t.size := by rw [ByteArray.size_append, a1]
  refine evIfPos (by omega) (evIfPos (by omega) (evIfPos (by omega) ?_))
  exact rplain_loop m t b c l hz hl l.length 0 _ (by omega) (by simp only [str_app, upB, headB, List.take_zero, List.flatMap_nil, List.append_nil, List.append_assoc]; rfl)
theorem bytes_f (m t b : ByteArray) (c : Bool) (l : List S50) (hz : (bytesL m t l b).length ≤ 140737488355328) : http_bytes.f m t l b c = some ⟨(bytesL m t l b).toArray⟩ := by
  unfold http_bytes.f
  rw [if_pos hz]
theorem bytesL_len (m t b : ByteArray) (l : List S50) : (bytesL m t l b).length = (upB m t l).length + 2 + b.size := by
  have hb2 : b.data.toList.length = b.size := Array.length_toList
  unfold bytesL
  rw [List.length_append, List.length_append, hb2]
  show _ + (2 + _) = _
  omega

/-! ### Check -/
def trimOk (v : ByteArray) : Bool := (⟨(Lib.trimS v.data.toList [32, 9]).toArray⟩ : ByteArray).toList == v.toList
def fOk (f : S50) : Bool := tokB f.f0 && (valOk f.f1 && trimOk f.f1)
def frontOk (m t : ByteArray) (c : Bool) (l : List S50) : Bool := lineOk m t && (rfieldsP l && (c == closesP l))
def sizeOk (b : ByteArray) (l : List S50) : Bool := (sizeP l).2.2 && (!(sizeP l).2.1 && ((sizeP l).1 == (b.size : Int)))
def checkP (m t b : ByteArray) (c : Bool) (l : List S50) : Int :=
  if 8192 < b.size then 171 else if (frontOk m t c l && (l.all fOk && sizeOk b l)) = true then (if 4096 < (upB m t l).length + 2 then 172 else 0) else 170
theorem check_loop (m t b : ByteArray) (c : Bool) (l : List S50) (hz : (bytesL m t l b).length ≤ 1073741824) (hl : l.length < 8796093022208) (hf : ∀ f ∈ l, f.f0.size ≤ 140737488351232 ∧ f.f1.size ≤ 140737488351232) (d : Nat) :
    ∀ i : Nat, i + d = l.length → Ev (fun k => http_Check.l0 k l (l.length : Int) (i : Int) m t l b c) (if (l.drop i).all fOk = true then (if 4096 < (upB m t l).length + 2 then 172 else 0) else 170) := by
  have hbl := bytesL_len m t b l
  induction d with
  | zero =>
    intro i hi
    rw [List.drop_of_length_le (by omega), if_pos (show ([] : List S50).all fOk = true from rfl)]
    refine Ev.step (fun k => by simp only [http_Check.l0]; exact rfl) (evIfNeg (by omega) (evBindc (bytes_f m t b c l (by omega)) ?_))
    have hs : (⟨(bytesL m t l b).toArray⟩ : ByteArray).size = (bytesL m t l b).length := List.size_toArray
    have e : wrap64 (((⟨(bytesL m t l b).toArray⟩ : ByteArray).size : Int) - (b.size : Int)) = (((upB m t l).length + 2 : Nat) : Int) := by rw [hs, wrap64_id (by omega) (by omega)]; omega
    rw [e]
    by_cases h : 4096 < (upB m t l).length + 2
    · rw [if_pos h]; exact evIfPos (by omega) (Ev.now _)
    · rw [if_neg h]; exact evIfNeg (by omega) (Ev.now _)
  | succ d ih =>
    intro i hi
    have hlt : i < l.length := by omega
    have h1 := ih (i + 1) (by omega)
    have hmem := hf l[i] (List.getElem_mem hlt)
    rw [List.drop_eq_getElem_cons hlt, List.all_cons]
    refine Ev.step (fun k => by simp only [http_Check.l0]; exact rfl) (evIfPos (by omega) (evIfPos (by omega) (evIfPos (by omega) ?_)))
    rw [rdF l i hlt, wrap64_succ (by omega)]
    generalize l[i] = F at *
    have hT := token_ev F.f0 hmem.1
    unfold fOk
    refine Ev.bind hT ?_
    cases tokB F.f0 with
    | false => exact evIfNeg (by decide) (by simpa using Ev.now _)
    | true =>
      refine evIfPos rfl (evBindc (show http_valueRight.f F.f1 = some (valOk F.f1) by unfold http_valueRight.f; rw [if_pos (by omega)]) ?_)
      cases valOk F.f1 with
      | false => exact evIfNeg (by decide) (by simpa using Ev.now _)
      | true =>
        refine evIfPos rfl (evBindc (show text_Trim.f F.f1 = some ⟨(Lib.trimS F.f1.data.toList [32, 9]).toArray⟩ by unfold text_Trim.f; rw [if_pos (by omega)]) ?_)
        by_cases h : (⟨(Lib.trimS F.f1.data.toList [32, 9]).toArray⟩ : ByteArray).toList = F.f1.toList
        · have e : trimOk F.f1 = true := beq_iff_eq.2 h
          rw [e, Bool.true_and, Bool.true_and, Bool.true_and]
          exact evIfPos h h1
        · have e : trimOk F.f1 = false := beq_eq_false_iff_ne.2 h
          rw [e]
          exact evIfNeg h (Ev.now _)
theorem check_ev (m t b : ByteArray) (c : Bool) (l : List S50) (hz : (bytesL m t l b).length ≤ 1073741824) (hl : l.length < 8796093022208) (hf : ∀ f ∈ l, f.f0.size ≤ 140737488351232 ∧ f.f1.size ≤ 140737488351232) :
    Ev (fun k => http_Check.f k m t l b c) (checkP m t b c l) := by
  have hsm : smallF l := fun f h => ⟨Nat.le_trans (hf f h).1 (by omega), Nat.le_trans (hf f h).2 (by omega)⟩
  have hbl := bytesL_len m t b l
  have hge := upB_ge m t l
  unfold checkP
  by_cases h0 : 8192 < b.size
  · rw [if_pos h0]; exact evIfPos (by omega) (Ev.now _)
  · rw [if_neg h0]
    have bad : Ev (fun k => http_Check.j0 k true m t l b c) 170 := Ev.step (fun k => by simp only [http_Check.j0]; exact rfl) (evIfPos (show true = true from rfl) (Ev.now _))
    refine evIfNeg (by omega) (evBindc (size_f m t b c l hl hsm) (evBindc (show http_lineRight.f m t = some (lineOk m t) by unfold http_lineRight.f; rw [if_pos (by omega)]) ?_))
    have hR := right_ev m t b c l hl hsm
    have hC := closes_ev m t b c l hl hsm
    have hL := check_loop m t b c l hz hl hf l.length 0 (by omega)
    rw [List.drop_zero] at hL
    unfold frontOk sizeOk
    rw [right_rel] at hR
    generalize (l.all fOk) = B at *
    cases lineOk m t with
    | false => exact evIfNeg (by decide) bad
    | true =>
      refine evIfPos rfl (Ev.bind hR ?_)
      generalize rfieldsP l = R at *
      generalize sizeP l = z at *
      cases z.2.2 with
      | false =>
        rw [Bool.false_and, Bool.false_and, Bool.and_false, Bool.and_false, if_neg Bool.false_ne_true]
        exact evIfNeg (by decide) bad
      | true =>
        cases R with
        | false => exact evIfNeg (by decide) bad
        | true =>
          refine evIfPos rfl ?_
          cases z.2.1 with
          | true =>
            simp only [Bool.not_true, Bool.false_and, Bool.and_false, Bool.false_eq_true, if_false]
            exact evIfPos trivial bad
          | false =>
            refine evIfNeg (show ¬ (false = true) by decide) ?_
            by_cases h1 : z.1 = (b.size : Int)
            · refine evIfPos h1 (Ev.bind hC ?_)
              rw [beq_iff_eq.2 h1]
              by_cases h2 : c = closesP l
              · have e1 : (c != closesP l) = false := by rw [h2]; simp
                rw [e1, beq_iff_eq.2 h2]
                simp only [Bool.not_false, Bool.true_and, Bool.and_true]
                exact Ev.step (fun k => by simp only [http_Check.j0]; exact rfl) (evIfNeg (show ¬ (false = true) by decide) hL)
              · have e1 : (c != closesP l) = true := bne_iff_ne.2 h2
                rw [e1, beq_eq_false_iff_ne.2 h2]
                exact bad
            · refine evIfNeg h1 ?_
              rw [beq_eq_false_iff_ne.2 h1]
              simp only [Bool.and_false, Bool.false_eq_true, if_false]
              exact bad
theorem len_rel (b : ByteArray) (l : List S50) (hb : b.size ≤ 8192) (h : (allP l lenN).length ≤ 1) : sizeOk b l = (((rlengthP l).2 == 0) && ((rlengthP l).1 == (b.size : Int))) := by
  unfold sizeOk
  rw [size_rel l h]
  generalize sizeP l = z
  cases z.2.2 with
  | false => rfl
  | true =>
    rw [if_pos rfl, Bool.true_and]
    cases z.2.1 with
    | true => rfl
    | false =>
      rw [Bool.false_or]
      by_cases h8 : z.1 > 8192
      · rw [decide_eq_true h8, if_pos rfl, beq_eq_false_iff_ne.2 (show z.1 ≠ (b.size : Int) by omega)]; rfl
      · rw [decide_eq_false h8, if_neg Bool.false_ne_true]; rfl
theorem rcheck_loop (m t b : ByteArray) (c : Bool) (l : List S50) (hz : (bytesL m t l b).length ≤ 1073741824) (hl : l.length < 8796093022208) (hf : ∀ f ∈ l, f.f0.size ≤ 140737488351232 ∧ f.f1.size ≤ 140737488351232) (hb : b.size ≤ 8192) (h1 : (allP l lenN).length ≤ 1) (d : Nat) :
    ∀ i : Nat, i + d = l.length → Ev (fun k => atriumref17_Check.l0 k (i : Int) m t l b c) (if ((l.drop i).all fOk && sizeOk b l) = true then (if 4096 < (upB m t l).length + 2 then 172 else 0) else 170) := by
  have hbl := bytesL_len m t b l
  have hsm : smallF l := fun f h => ⟨Nat.le_trans (hf f h).1 (by omega), Nat.le_trans (hf f h).2 (by omega)⟩
  induction d with
  | zero =>
    intro i hi
    rw [List.drop_of_length_le (by omega), show ([] : List S50).all fOk = true from rfl, Bool.true_and, len_rel b l hb h1]
    refine Ev.step (fun k => by simp only [atriumref17_Check.l0]; exact rfl) (evIfNeg (by omega) (Ev.bind (rlength_ev m t b c l hl hsm) ?_))
    have bad : Ev (fun k => atriumref17_Check.j2 k true m t l b c) 170 := Ev.step (fun k => by simp only [atriumref17_Check.j2]; exact rfl) (evIfPos (show true = true from rfl) (Ev.now _))
    have good : Ev (fun k => atriumref17_Check.j2 k false m t l b c) (if 4096 < (upB m t l).length + 2 then 172 else 0) := by
      refine Ev.step (fun k => by simp only [atriumref17_Check.j2]; exact rfl) (evIfNeg (show ¬ (false = true) by decide) (Ev.bind (rplain_ev m t b c l (by omega) (by omega)) ?_))
      have hs : (⟨(upB m t l ++ [13, 10]).toArray⟩ : ByteArray).size = (upB m t l).length + 2 := by
        show ((upB m t l ++ [13, 10]).toArray).size = _
        rw [List.size_toArray, List.length_append]; rfl
      by_cases h : 4096 < (upB m t l).length + 2
      · rw [if_pos h]; exact evIfPos (by show (_ : Int) > 4096; rw [hs]; omega) (Ev.now _)
      · rw [if_neg h]; exact evIfNeg (by show ¬ (_ : Int) > 4096; rw [hs]; omega) (Ev.now _)
    generalize rlengthP l = z at *
    by_cases h2 : z.2 = 0
    · refine evIfPos h2 ?_
      rw [beq_iff_eq.2 h2, Bool.true_and]
      by_cases h3 : z.1 = (b.size : Int)
      · have e : (z.1 != (b.size : Int)) = false := by rw [h3]; simp
        rw [e, beq_iff_eq.2 h3, if_pos rfl]; exact good
      · have e : (z.1 != (b.size : Int)) = true := bne_iff_ne.2 h3
        rw [e, beq_eq_false_iff_ne.2 h3, if_neg Bool.false_ne_true]; exact bad
    · refine evIfNeg h2 ?_
      rw [beq_eq_false_iff_ne.2 h2, Bool.false_and, if_neg Bool.false_ne_true]
      exact bad
  | succ d ih =>
    intro i hi
    have hlt : i < l.length := by omega
    have h1 := ih (i + 1) (by omega)
    have hmem := hf l[i] (List.getElem_mem hlt)
    rw [List.drop_eq_getElem_cons hlt, List.all_cons]
    refine Ev.step (fun k => by simp only [atriumref17_Check.l0]; exact rfl) (evIfPos (by omega) (evIfPos (by omega) ?_))
    rw [rdF l i hlt, wrap64_succ (by omega)]
    generalize l[i] = F at *
    unfold fOk
    refine Ev.bind (rtoken_ev F.f0 hmem.1) ?_
    cases tokB F.f0 with
    | false => exact evIfNeg (by decide) (by simpa using Ev.now _)
    | true =>
      refine evIfPos rfl (Ev.bind (rvalue_ev F.f1 hmem.2) ?_)
      cases valOk F.f1 with
      | false => exact evIfNeg (by decide) (by simpa using Ev.now _)
      | true =>
        refine evIfPos rfl (Ev.bind (rtrim_ev F.f1 hmem.2) ?_)
        by_cases h : (⟨(Lib.trimS F.f1.data.toList [32, 9]).toArray⟩ : ByteArray).toList = F.f1.toList
        · have e : trimOk F.f1 = true := beq_iff_eq.2 h
          rw [e, Bool.true_and, Bool.true_and, Bool.true_and]
          exact evIfPos h h1
        · have e : trimOk F.f1 = false := beq_eq_false_iff_ne.2 h
          rw [e]
          exact evIfNeg h (Ev.now _)
theorem rcheck_ev (m t b : ByteArray) (c : Bool) (l : List S50) (hz : (bytesL m t l b).length ≤ 1073741824) (hl : l.length < 8796093022208) (hf : ∀ f ∈ l, f.f0.size ≤ 140737488351232 ∧ f.f1.size ≤ 140737488351232) :
    Ev (fun k => atriumref17_Check.f k m t l b c) (checkP m t b c l) := by
  have hsm : smallF l := fun f h => ⟨Nat.le_trans (hf f h).1 (by omega), Nat.le_trans (hf f h).2 (by omega)⟩
  have hbl := bytesL_len m t b l
  have hge := upB_ge m t l
  unfold checkP
  by_cases h0 : 8192 < b.size
  · rw [if_pos h0]; exact evIfPos (by omega) (Ev.now _)
  · rw [if_neg h0]
    have bad : Ev (fun k => atriumref17_Check.j0 k true m t l b c) 170 := Ev.step (fun k => by simp only [atriumref17_Check.j0]; exact rfl) (evIfPos (show true = true from rfl) (Ev.now _))
    have hM := rmethod_ev m (by omega)
    have hT := rtarget_ev t (by omega)
    unfold frontOk
    rw [line_split]
    generalize (m.data.toList.all upC && (decide (1 ≤ m.size) && decide (m.size ≤ 16))) = mOk at *
    generalize (t.data.toList.all visC && (decide (1 ≤ t.size) && (decide (t.size ≤ 1024) && (bt t 0 == 47)))) = tOk at *
    refine evIfNeg (by omega) (Ev.bind hM ?_)
    cases mOk with
    | false => exact evIfNeg (by decide) bad
    | true =>
      refine evIfPos rfl (Ev.bind hT ?_)
      cases tOk with
      | false => exact evIfNeg (by decide) bad
      | true =>
        refine evIfPos rfl (Ev.bind (rfields_ev m t b c l hl hsm) ?_)
        cases hr : rfieldsP l with
        | false => exact evIfNeg (by decide) bad
        | true =>
          have h1 : (allP l lenN).length ≤ 1 := by
            unfold rfieldsP at hr
            rw [Bool.and_eq_true, Bool.and_eq_true, Bool.and_eq_true] at hr
            exact of_decide_eq_true hr.2.2.1
          have hL := rcheck_loop m t b c l hz hl hf (by omega) h1 l.length 0 (by omega)
          rw [List.drop_zero] at hL
          refine evIfPos rfl (Ev.bind (rcloses_ev m t b c l hl hsm) ?_)
          by_cases h2 : c = closesP l
          · have e1 : (c != closesP l) = false := by rw [h2]; simp
            rw [e1, beq_iff_eq.2 h2]
            simp only [Bool.true_and]
            exact Ev.step (fun k => by simp only [atriumref17_Check.j0]; exact rfl) (evIfNeg (show ¬ (false = true) by decide) hL)
          · have e1 : (c != closesP l) = true := bne_iff_ne.2 h2
            rw [e1, beq_eq_false_iff_ne.2 h2]
            exact bad
def printP (m t b : ByteArray) (c : Bool) (l : List S50) : ByteArray × Int := if checkP m t b c l = 0 then (⟨(bytesL m t l b).toArray⟩, 0) else (⟨#[]⟩, checkP m t b c l)
theorem print_ev (m t b : ByteArray) (c : Bool) (l : List S50) (hz : (bytesL m t l b).length ≤ 1073741824) (hl : l.length < 8796093022208) (hf : ∀ f ∈ l, f.f0.size ≤ 140737488351232 ∧ f.f1.size ≤ 140737488351232) :
    Ev (fun k => http_Print.f k m t l b c) (printP m t b c l) := by
  refine Ev.bind (check_ev m t b c l hz hl hf) ?_
  by_cases h : checkP m t b c l = 0
  · rw [show printP m t b c l = (⟨(bytesL m t l b).toArray⟩, 0) by unfold printP; rw [if_pos h]]
    exact evIfPos h (evBindc (bytes_f m t b c l (by omega)) (Ev.now _))
  · rw [show printP m t b c l = (⟨#[]⟩, checkP m t b c l) by unfold printP; rw [if_neg h]]
    exact evIfNeg h (Ev.now _)
theorem rprint_ev (m t b : ByteArray) (c : Bool) (l : List S50) (hz : (bytesL m t l b).length ≤ 1073741824) (hl : l.length < 8796093022208) (hf : ∀ f ∈ l, f.f0.size ≤ 140737488351232 ∧ f.f1.size ≤ 140737488351232) :
    Ev (fun k => atriumref17_Print.f k m t l b c) (printP m t b c l) := by
  have hbl := bytesL_len m t b l
  refine Ev.bind (rcheck_ev m t b c l hz hl hf) ?_
  by_cases h : checkP m t b c l = 0
  · rw [show printP m t b c l = (⟨(bytesL m t l b).toArray⟩, 0) by unfold printP; rw [if_pos h]]
    have hs : (⟨(upB m t l ++ [13, 10]).toArray⟩ : ByteArray).size = (upB m t l).length + 2 := by
      show ((upB m t l ++ [13, 10]).toArray).size = _
      rw [List.size_toArray, List.length_append]; rfl
    refine evIfPos h (Ev.bind (rplain_ev m t b c l (by omega) (by omega)) (evIfPos (by show _ + b.size ≤ _; rw [hs]; omega) ?_))
    have : (⟨(upB m t l ++ [13, 10]).toArray⟩ : ByteArray) ++ b = ⟨(bytesL m t l b).toArray⟩ := by
      apply row_data_inj
      rw [str_app, toArr, toArr]
      unfold bytesL
      rw [List.append_assoc]
    show Ev (fun _ => some ((⟨(upB m t l ++ [13, 10]).toArray⟩ : ByteArray) ++ b, (0 : Int))) _
    rw [this]
    exact Ev.now _
  · rw [show printP m t b c l = (⟨#[]⟩, checkP m t b c l) by unfold printP; rw [if_neg h]]
    exact evIfNeg h (Ev.now _)
end Go.Proofs.YtckbcnmcnhahhaaDoor.Pure
