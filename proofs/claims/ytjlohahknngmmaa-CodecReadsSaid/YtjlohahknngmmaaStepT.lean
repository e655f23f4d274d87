/- Texts: what the codec's Reader and the document's reading tell: plain. -/
import Derived.Test.YtjlohahknngmmaaStepV
namespace Go.Proofs.Ytjlohahknngmmaa.PureC
set_option linter.unusedVariables false
open Go Go.RowKit Go.Proofs.Ytjlohahknngmmaa Go.Proofs.Ytjlohahknngmmaa.PC Go.Proofs.YtjlohahknngmmaaW.PrintWords Go.Proofs.YtjlohahknngmmaaW.PrintLast

theorem rv_nonneg (t : List Int) : ∀ p : List Int, 0 ≤ (rv p t).1 := by
  induction t with
  | nil => intro p; exact Int.le_refl _
  | cons c t ih =>
    intro p
    simp only [rv]
    split
    · exact Int.le_refl _
    · split
      · split
        · exact Int.le_refl _
        · exact (lv_range _).1
      · exact ih _
theorem varP_facts (s : ByteArray) (e : Int) : 0 ≤ (varP s e).1 ∧ (varP s e).2.1.size ≤ s.size := by
  unfold varP
  split
  · split
    · refine ⟨rv_nonneg _ _, ?_⟩
      show (s.extract _ s.size).size ≤ s.size
      rw [extract_size]; omega
    · exact ⟨Int.le_refl _, Nat.le_refl _⟩
  · exact ⟨Int.le_refl _, Nat.le_refl _⟩
theorem varR_facts (s : ByteArray) (e : Int) : 0 ≤ (varR s e).1 ∧ (varR s e).2.1.size ≤ s.size := by
  unfold varR
  split
  · split
    · refine ⟨rv_nonneg _ _, ?_⟩
      show (s.extract _ s.size).size ≤ s.size
      rw [extract_size]; omega
    · exact ⟨Int.le_refl _, Nat.zero_le _⟩
  · exact ⟨Int.le_refl _, Nat.le_refl _⟩
def textP (s : ByteArray) (e : Int) : ByteArray × ByteArray × Int :=
  if (varP s e).2.2 = 0 then (if (varP s e).1 > ((varP s e).2.1.size : Int) then (⟨#[]⟩, (varP s e).2.1, 20) else rawP (varP s e).2.1 0 (varP s e).1) else (⟨#[]⟩, (varP s e).2.1, (varP s e).2.2)
def textR (s : ByteArray) (e : Int) : ByteArray × ByteArray × Int :=
  if (varR s e).2.2 = 0 then (if (varR s e).1 > ((varR s e).2.1.size : Int) then (⟨#[]⟩, ⟨#[]⟩, 20) else rawR (varR s e).2.1 0 (varR s e).1) else (⟨#[]⟩, (varR s e).2.1, (varR s e).2.2)
theorem text_ev (s : ByteArray) (e : Int) (hs : s.size ≤ 281474976710656) : Ev (fun k => codec_Reader_Text.f k s e) (textP s e) := by
  have hf := varP_facts s e
  unfold textP
  refine Ev.bind (varint_ev s e hs) ?_
  generalize varP s e = v at *
  obtain ⟨n, s1, e1⟩ := v
  dsimp only at *
  by_cases he : e1 = 0
  · subst he
    simp only [↓reduceIte]
    rw [u64w (x := (s1.size : Int)) (by omega) (by omega)]
    by_cases hn : n > (s1.size : Int)
    · simp only [if_pos hn]
      exact Ev.now _
    · simp only [if_neg hn]
      rw [wrap64_id (by omega) (by omega)]
      exact evBindc (raw_eq s1 0 n) (Ev.now _)
  · simp only [if_neg he]
    exact Ev.now _
theorem rtext_ev (s : ByteArray) (e : Int) (hs : s.size ≤ 281474976710656) : Ev (fun k => atriumlaw02_reading_text.f k s e) (textR s e) := by
  have hf := varR_facts s e
  unfold textR
  refine Ev.bind (rvarint_ev s e hs) ?_
  generalize varR s e = v at *
  obtain ⟨n, s1, e1⟩ := v
  dsimp only at *
  by_cases he : e1 = 0
  · subst he
    rw [if_pos rfl]
    refine evIfPos rfl ?_
    rw [u64w (x := (s1.size : Int)) (by omega) (by omega)]
    by_cases hn : n > (s1.size : Int)
    · simp only [if_pos hn, decide_eq_true hn]
      exact Ev.step (fun k => by simp only [atriumlaw02_reading_text.j0]; exact rfl) (evIfPos (show true = true from rfl) (Ev.now _))
    · simp only [if_neg hn, decide_eq_false hn]
      refine Ev.step (fun k => by simp only [atriumlaw02_reading_text.j0]; exact rfl) (evIfNeg (show ¬ (false = true) by decide) ?_)
      rw [wrap64_id (by omega) (by omega)]
      exact evBindc (rraw_eq s1 0 n) (Ev.now _)
  · rw [if_neg he]
    refine evIfNeg he (Ev.step (fun k => by simp only [atriumlaw02_reading_text.j0]; exact rfl) (evIfNeg (show ¬ (false = true) by decide) (evBindc (rraw_eq s1 e1 _) ?_)))
    rw [show rawR s1 e1 (wrap64 n) = (⟨#[]⟩, s1, e1) by unfold rawR; rw [if_neg he]]
    exact Ev.now _
theorem text_agree (s l : ByteArray) (e : Int) (h : Agree s l e) : (textP s e).1 = (textR l e).1 ∧ (textP s e).2.2 = (textR l e).2.2 ∧ Agree (textP s e).2.1 (textR l e).2.1 (textP s e).2.2 := by
  obtain ⟨h1, h2, h3⟩ := var_agree s l e h
  unfold textP textR
  generalize varP s e = v at *
  generalize varR l e = u at *
  obtain ⟨n, s1, e1⟩ := v
  obtain ⟨m, l1, d1⟩ := u
  dsimp only at *
  subst h1 h2
  by_cases he : e1 = 0
  · have := h3.1 he
    subst this
    subst he
    simp only [if_true]
    split
    · exact ⟨rfl, rfl, fun h => absurd h (show ¬ (20 : Int) = 0 by decide), fun _ => rfl⟩
    · exact raw_agree s1 s1 0 n ⟨fun _ => rfl, fun h => absurd rfl h⟩
  · simp only [if_neg he]
    exact ⟨trivial, trivial, h3⟩
end Go.Proofs.Ytjlohahknngmmaa.PureC
