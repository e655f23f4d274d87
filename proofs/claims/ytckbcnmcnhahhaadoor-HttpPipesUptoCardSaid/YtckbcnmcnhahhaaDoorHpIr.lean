/- HttpPrints: Print, Check and the document's in closed form; what is printed is parsed again; the plain law. -/
import Derived.Test.YtckbcnmcnhahhaaDoorHpIq
namespace Go.Proofs.YtckbcnmcnhahhaaDoor.Pure
open Go Go.RowKit Go.Proofs.YtckbcnmcnhahhaaDoor Go.Proofs.YtckbcnmcnhahhaaDoor.PI Go.Proofs.YtckbcnmcnhahhaaDoorW.PrintWords Go.Proofs.YtckbcnmcnhahhaaDoorW.PrintLast
set_option linter.unusedVariables false
set_option linter.unusedSimpArgs false

theorem toArr (l : List UInt8) : (⟨l.toArray⟩ : ByteArray).data.toList = l := List.toList_toArray
theorem bytes_f (m t b : ByteArray) (c : Bool) (l : List S50) (hz : (bytesL m t l b).length ≤ 140737488355328) : http_bytes.f m t l b c = some ⟨(bytesL m t l b).toArray⟩ := by
  unfold http_bytes.f
  rw [if_pos hz]
theorem bytesL_len (m t b : ByteArray) (l : List S50) : (bytesL m t l b).length = (upB m t l).length + 2 + b.size := by
  have hb2 : b.data.toList.length = b.size := Array.length_toList
  unfold bytesL
  rw [List.length_append, List.length_append, hb2]
  show _ + (2 + _) = _
  omega

/-! ### Check -/
def trimOk (v : ByteArray) : Bool := (⟨(Lib.trimS v.data.toList [32, 9]).toArray⟩ : ByteArray).toList == v.toList
def fOk (f : S50) : Bool := tokB f.f0 && (valOk f.f1 && trimOk f.f1)
def frontOk (m t : ByteArray) (c : Bool) (l : List S50) : Bool := lineOk m t && (rfieldsP l && (c == closesP l))
def sizeOk (b : ByteArray) (l : List S50) : Bool := (sizeP l).2.2 && (!(sizeP l).2.1 && ((sizeP l).1 == (b.size : Int)))
def checkP (m t b : ByteArray) (c : Bool) (l : List S50) : Int :=
  if 8192 < b.size then 171 else if (frontOk m t c l && (l.all fOk && sizeOk b l)) = true then (if 4096 < (upB m t l).length + 2 then 172 else 0) else 170
theorem check_loop (m t b : ByteArray) (c : Bool) (l : List S50) (hz : (bytesL m t l b).length ≤ 1073741824) (hl : l.length < 8796093022208) (hf : ∀ f ∈ l, f.f0.size ≤ 140737488351232 ∧ f.f1.size ≤ 140737488351232) (d : Nat) :
    ∀ i : Nat, i + d = l.length → Ev (fun k => http_Check.l0 k l (l.length : Int) (i : Int) m t l b c) (if (l.drop i).all fOk = true then (if 4096 < (upB m t l).length + 2 then 172 else 0) else 170) := by
  have hbl := bytesL_len m t b l
  induction d with
  | zero =>
    intro i hi
    rw [List.drop_of_length_le (by omega), if_pos (show ([] : List S50).all fOk = true from rfl)]
    refine Ev.step (fun k => by simp only [http_Check.l0]; exact rfl) (evIfNeg (by omega) (evBindc (bytes_f m t b c l (by omega)) ?_))
    have hs : (⟨(bytesL m t l b).toArray⟩ : ByteArray).size = (bytesL m t l b).length := List.size_toArray
    have e : wrap64 (((⟨(bytesL m t l b).toArray⟩ : ByteArray).size : Int) - (b.size : Int)) = (((upB m t l).length + 2 : Nat) : Int) := by rw [hs, wrap64_id (by omega) (by omega)]; omega
    rw [e]
    by_cases h : 4096 < (upB m t l).length + 2
    · rw [if_pos h]; exact evIfPos (by omega) (Ev.now _)
    · rw [if_neg h]; exact evIfNeg (by omega) (Ev.now _)
  | succ d ih =>
    intro i hi
    have hlt : i < l.length := by omega
    have h1 := ih (i + 1) (by omega)
    have hmem := hf l[i] (List.getElem_mem hlt)
    rw [List.drop_eq_getElem_cons hlt, List.all_cons]
    refine Ev.step (fun k => by simp only [http_Check.l0]; exact rfl) (evIfPos (by omega) (evIfPos (by omega) (evIfPos (by omega) ?_)))
    rw [rdF l i hlt, wrap64_succ (by omega)]
    generalize l[i] = F at *
    have hT := token_ev F.f0 hmem.1
    unfold fOk
    refine Ev.bind hT ?_
    cases tokB F.f0 with
    | false => exact evIfNeg (by decide) (by simpa using Ev.now _)
    | true =>
      refine evIfPos rfl (evBindc (show http_valueRight.f F.f1 = some (valOk F.f1) by unfold http_valueRight.f; rw [if_pos (by omega)]) ?_)
      cases valOk F.f1 with
      | false => exact evIfNeg (by decide) (by simpa using Ev.now _)
      | true =>
        refine evIfPos rfl (evBindc (show text_Trim.f F.f1 = some ⟨(Lib.trimS F.f1.data.toList [32, 9]).toArray⟩ by unfold text_Trim.f; rw [if_pos (by omega)]) ?_)
        by_cases h : (⟨(Lib.trimS F.f1.data.toList [32, 9]).toArray⟩ : ByteArray).toList = F.f1.toList
        · have e : trimOk F.f1 = true := beq_iff_eq.2 h
          rw [e, Bool.true_and, Bool.true_and, Bool.true_and]
          exact evIfPos h h1
        · have e : trimOk F.f1 = false := beq_eq_false_iff_ne.2 h
          rw [e]
          exact evIfNeg h (Ev.now _)
theorem check_ev (m t b : ByteArray) (c : Bool) (l : List S50) (hz : (bytesL m t l b).length ≤ 1073741824) (hl : l.length < 8796093022208) (hf : ∀ f ∈ l, f.f0.size ≤ 140737488351232 ∧ f.f1.size ≤ 140737488351232) :
    Ev (fun k => http_Check.f k m t l b c) (checkP m t b c l) := by
  have hsm : smallF l := fun f h => ⟨Nat.le_trans (hf f h).1 (by omega), Nat.le_trans (hf f h).2 (by omega)⟩
  have hbl := bytesL_len m t b l
  have hge := upB_ge m t l
  unfold checkP
  by_cases h0 : 8192 < b.size
  · rw [if_pos h0]; exact evIfPos (by omega) (Ev.now _)
  · rw [if_neg h0]
    have bad : Ev (fun k => http_Check.j0 k true m t l b c) 170 := Ev.step (fun k => by simp only [http_Check.j0]; exact rfl) (evIfPos (show true = true from rfl) (Ev.now _))
    refine evIfNeg (by omega) (evBindc (size_f m t b c l hl hsm) (evBindc (show http_lineRight.f m t = some (lineOk m t) by unfold http_lineRight.f; rw [if_pos (by omega)]) ?_))
    have hR := right_ev m t b c l hl hsm
    have hC := closes_ev m t b c l hl hsm
    have hL := check_loop m t b c l hz hl hf l.length 0 (by omega)
    rw [List.drop_zero] at hL
    unfold frontOk sizeOk
    rw [right_rel] at hR
    generalize (l.all fOk) = B at *
    cases lineOk m t with
    | false => exact evIfNeg (by decide) bad
    | true =>
      refine evIfPos rfl (Ev.bind hR ?_)
      generalize rfieldsP l = R at *
      generalize sizeP l = z at *
      cases z.2.2 with
      | false =>
        rw [Bool.false_and, Bool.false_and, Bool.and_false, Bool.and_false, if_neg Bool.false_ne_true]
        exact evIfNeg (by decide) bad
      | true =>
        cases R with
        | false => exact evIfNeg (by decide) bad
        | true =>
          refine evIfPos rfl ?_
          cases z.2.1 with
          | true =>
            simp only [Bool.not_true, Bool.false_and, Bool.and_false, Bool.false_eq_true, if_false]
            exact evIfPos trivial bad
          | false =>
            refine evIfNeg (show ¬ (false = true) by decide) ?_
            by_cases h1 : z.1 = (b.size : Int)
            · refine evIfPos h1 (Ev.bind hC ?_)
              rw [beq_iff_eq.2 h1]
              by_cases h2 : c = closesP l
              · have e1 : (c != closesP l) = false := by rw [h2]; simp
                rw [e1, beq_iff_eq.2 h2]
                simp only [Bool.not_false, Bool.true_and, Bool.and_true]
                exact Ev.step (fun k => by simp only [http_Check.j0]; exact rfl) (evIfNeg (show ¬ (false = true) by decide) hL)
              · have e1 : (c != closesP l) = true := bne_iff_ne.2 h2
                rw [e1, beq_eq_false_iff_ne.2 h2]
                exact bad
            · refine evIfNeg h1 ?_
              rw [beq_eq_false_iff_ne.2 h1]
              simp only [Bool.and_false, Bool.false_eq_true, if_false]
              exact bad
def printP (m t b : ByteArray) (c : Bool) (l : List S50) : ByteArray × Int := if checkP m t b c l = 0 then (⟨(bytesL m t l b).toArray⟩, 0) else (⟨#[]⟩, checkP m t b c l)
theorem print_ev (m t b : ByteArray) (c : Bool) (l : List S50) (hz : (bytesL m t l b).length ≤ 1073741824) (hl : l.length < 8796093022208) (hf : ∀ f ∈ l, f.f0.size ≤ 140737488351232 ∧ f.f1.size ≤ 140737488351232) :
    Ev (fun k => http_Print.f k m t l b c) (printP m t b c l) := by
  refine Ev.bind (check_ev m t b c l hz hl hf) ?_
  by_cases h : checkP m t b c l = 0
  · rw [show printP m t b c l = (⟨(bytesL m t l b).toArray⟩, 0) by unfold printP; rw [if_pos h]]
    exact evIfPos h (evBindc (bytes_f m t b c l (by omega)) (Ev.now _))
  · rw [show printP m t b c l = (⟨#[]⟩, checkP m t b c l) by unfold printP; rw [if_neg h]]
    exact evIfNeg h (Ev.now _)
end Go.Proofs.YtckbcnmcnhahhaaDoor.Pure
