/- Proves that the sizes that Decode tells, one behind the other, come to the text, and are as many as Count tells: for every text. Conditions: none but the form's own reach of a string. -/
import Derived.Test.YtkekkabelnmlnaaPTx5
import Derived.Test.YtkekkabelnmlnaaPureTextDigits
namespace Go.Proofs.Ytkekkabelnmlnaa.Pure
open Go.RowKit Go.Proofs.Ytkekkabelnmlnaa Go.Proofs.Ytkekkabelnmlnaa.PT Go.Proofs.YtkekkabelnmlnaaW.PrintWords Go.Proofs.YtkekkabelnmlnaaW.PrintLast

theorem sizes_loop (s : ByteArray) (hs : s.size ≤ 140737488351232) (f : Nat) : ∀ (p c : Nat), s.size ≤ p + f → p ≤ s.size → c ≤ p →
    Ev (fun k => atriumlaw15_TextSizes.l0 k s (p : Int) (c : Int)) (((c + (rnFrom s f p).length : Nat) : Int) == ((rn s).length : Int)) := by
  induction f with
  | zero =>
    intro p c h1 h2 h3
    refine Ev.step (fun k => by simp only [atriumlaw15_TextSizes.l0]; exact rfl) ?_
    simp only [if_neg (show ¬ (p : Int) < (s.size : Int) by omega), text_Count.f, if_pos (show s.size ≤ 9223372036854775807 by omega), Option.bind_some, rnFrom, List.length_nil, Nat.add_zero]
    exact Ev.now _
  | succ f ih =>
    intro p c h1 h2 h3
    by_cases hp : p < s.size
    · have hd := dec_pos s p hp
      have hf := dec_fits s p hp
      have h4 := dec_le4 s p
      have hx : (s.extract p s.size).size = s.size - p := by simp [ByteArray.size_extract]
      refine Ev.step (fun k => by simp only [atriumlaw15_TextSizes.l0]; exact rfl) ?_
      simp only [if_pos (show (p : Int) < (s.size : Int) by omega), if_pos (show (0 : Int) ≤ (p : Int) by omega), if_pos (show (p : Int) ≤ (s.size : Int) by omega), Int.toNat_natCast, text_Decode.f, Option.bind_some, hx, if_neg (show ¬ s.size - p = 0 by omega), decode_extract s p hp,
        if_neg (show ¬ ((Utf8.decode s p).2 : Int) < 1 by omega), gt_iff_lt, if_neg (show ¬ (4 : Int) < ((Utf8.decode s p).2 : Int) by omega)]
      have e1 : wrap64 ((p : Int) + ((Utf8.decode s p).2 : Int)) = ((p + (Utf8.decode s p).2 : Nat) : Int) := by rw [wrap64_id (by omega) (by omega)]; rfl
      rw [e1, wrap64_succ (by omega)]
      simp only [if_neg (show ¬ (s.size : Int) < ((p + (Utf8.decode s p).2 : Nat) : Int) by omega)]
      have := ih (p + (Utf8.decode s p).2) (c + 1) (by omega) (by omega) (by omega)
      simp only [rnFrom, hp, if_true, List.length_cons]
      rw [show c + ((rnFrom s f (p + (Utf8.decode s p).2)).length + 1) = c + 1 + (rnFrom s f (p + (Utf8.decode s p).2)).length by omega]
      exact this
    · refine Ev.step (fun k => by simp only [atriumlaw15_TextSizes.l0]; exact rfl) ?_
      simp only [if_neg (show ¬ (p : Int) < (s.size : Int) by omega), text_Count.f, if_pos (show s.size ≤ 9223372036854775807 by omega), Option.bind_some, rnFrom_end s _ p hp, List.length_nil, Nat.add_zero]
      exact Ev.now _

theorem TextSizes : atriumlaw15_TextSizes.Pure := by
  intro s hs
  refine Ev.rounds (g := fun k => atriumlaw15_TextSizes.f k s) ?_
  simp only [atriumlaw15_TextSizes.f]
  refine Ev.bind lives_ev ?_
  simp only [if_true]
  have := sizes_loop s hs s.size 0 0 (by omega) (by omega) (by omega)
  simpa [rn] using this

end Go.Proofs.Ytkekkabelnmlnaa.Pure
