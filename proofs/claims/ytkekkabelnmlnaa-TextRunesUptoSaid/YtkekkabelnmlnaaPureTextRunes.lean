/- Proves that the program tells the runes of any text, their number, the first one and its size, and whether the text is right, as the document does. Condition: the text has at most 1048576 bytes (the second form of the statement: a text of more than 2^46 runes has no slice of runes). -/
import Derived.Test.YtkekkabelnmlnaaPureRunes
import Derived.Test.YtkekkabelnmlnaaPureTextDigits
namespace Go.Proofs.Ytkekkabelnmlnaa.Pure
open Go.RowKit Go.Proofs.Ytkekkabelnmlnaa Go.Proofs.Ytkekkabelnmlnaa.PT Go.Proofs.YtkekkabelnmlnaaW.PrintWords Go.Proofs.YtkekkabelnmlnaaW.PrintLast

theorem refDecode_any (s : ByteArray) : ∃ p, text_Decode.f s = some p ∧ Ev (fun k => atriumref15_Decode.f k s) p := by
  by_cases h : s.size = 0
  · refine ⟨(0, 0), by simp [text_Decode.f, h], ?_⟩
    simp only [atriumref15_Decode.f, if_pos ((toList_nil s).2 h)]
    exact Ev.now _
  · exact ⟨_, by simp only [text_Decode.f, h, if_false], refDecode_ev s h⟩

theorem TextRunes_upto (s : ByteArray) (hs : s.size ≤ 1048576) : ∃ k, atriumlaw15_TextRunes.f k s = some true := by
  refine Ev.rounds (g := fun k => atriumlaw15_TextRunes.f k s) ?_
  have hlen : (rn s).length ≤ s.size := by have := rnFrom_len s s.size 0 (by omega); simpa [rn] using this
  obtain ⟨p, hp, hd⟩ := refDecode_any s
  have hr := refRunes_ev s (by omega)
  have hz : (runeInts s).length = (rn s).length := by simp [runeInts]
  simp only [atriumlaw15_TextRunes.f, hp, Option.bind_some, text_Runes.f, if_pos (show s.size ≤ 9223372036854775807 ∧ (rn s).length * 4 ≤ 140737488355328 by omega), text_Valid.f, text_Count.f, if_pos (show s.size ≤ 9223372036854775807 by omega), atriumref15_Count.f]
  refine Ev.bind hd (Ev.bind lives_ev ?_)
  simp only [if_true]
  refine Ev.bind hr (Ev.bind (sameRunes_ev _ _ (by omega)) ?_)
  simp only [decide_true, if_true]
  refine Ev.bind (refValid_ev s) ?_
  simp only [beq_self_eq_true, if_true]
  refine Ev.bind (a := ((rn s).length : Int)) (Ev.bind hr ?_) ?_
  · rw [hz]; exact Ev.now _
  · simp only [if_true]; exact Ev.now _

theorem TextRunes_walk (s : ByteArray) (w : World) (hs : s.size ≤ 1048576) :
    Calls Try.prog 6 #[.string s] w fun e w' => e = .returned (.bool true) ∧ Below w.heap.size w w' := by
  obtain ⟨k, h⟩ := TextRunes_upto s hs
  exact atriumlaw15_TextRunes.calls k s true w h
end Go.Proofs.Ytkekkabelnmlnaa.Pure
