/- MacDerives: bytes are derived as HKDF has it, fewer are the beginning of more: plain. No condition beyond the reach of a text. -/
import Derived.Test.YtililaifppblhaaMacQ
namespace Go.Proofs.Ytililaifppblhaa.Pure
open Go Go.RowKit Go.Proofs.Ytililaifppblhaa Go.Proofs.Ytililaifppblhaa.PM Go.Proofs.YtililaifppblhaaW.PrintWords Go.Proofs.YtililaifppblhaaW.PrintLast
set_option linter.unusedVariables false
set_option linter.unusedSimpArgs false

theorem MacDerives : atriumlaw04_MacDerives.Pure := by
  intro a0 a1 a2 a3 a4 h0 h1 h2 hw hw2
  apply Ev.rounds
  simp only [atriumlaw04_MacDerives.f]
  refine evBindc (a := true) rfl ?_
  refine evIfPos rfl ?_
  by_cases hn : a3 < 0 ∨ 8160 < a3
  · refine Ev.bind (evDerNo a0 a1 a2 a3 hn) ?_
    refine Ev.bind (evRDerNo a0 a1 a2 a3 hn) ?_
    refine evIfPos rfl ?_
    refine Ev.step (f := fun k => _) (fun k => by rw [atriumlaw04_MacDerives.j0]) ?_
    refine evIfNeg (by decide) ?_
    exact evIfNeg (by decide) (Ev.now _)
  · obtain ⟨n, rfl⟩ : ∃ n : Nat, a3 = (n : Int) := ⟨a3.toNat, by omega⟩
    refine Ev.bind (evDer a0 a1 a2 n h0 h1 h2 (by omega)) ?_
    refine Ev.bind (evRDer a0 a1 a2 n h0 h1 h2 (by omega)) ?_
    refine evIfPos rfl ?_
    refine Ev.step (f := fun k => _) (fun k => by rw [atriumlaw04_MacDerives.j0]) ?_
    refine evIfNeg (by simp) ?_
    refine evIfPos rfl ?_
    by_cases hm : a4 < 0
    · exact evIfPos hm (Ev.now _)
    refine evIfNeg hm ?_
    by_cases hm2 : a4 > (n : Int)
    · exact evIfPos hm2 (Ev.now _)
    refine evIfNeg hm2 ?_
    obtain ⟨m, rfl⟩ : ∃ m : Nat, a4 = (m : Int) := ⟨a4.toNat, by omega⟩
    refine Ev.bind (evDer a0 a1 a2 m h0 h1 h2 (by omega)) ?_
    refine evIfPos rfl ?_
    refine evIfPos (by omega) ?_
    refine evIfPos (by show (m : Int) ≤ ((derT a0 a1 a2 n).size : Int); rw [derT_size]; omega) ?_
    have e : (derT a0 a1 a2 m).toList == ((derT a0 a1 a2 n).extract 0 ((m : Int)).toNat).toList := by
      rw [Int.toNat_natCast, der_less a0 a1 a2 n m (by omega)]
      simp
    show Ev (fun _ => some ((derT a0 a1 a2 m).toList == ((derT a0 a1 a2 n).extract 0 ((m : Int)).toNat).toList)) true
    rw [e]
    exact Ev.now _
end Go.Proofs.Ytililaifppblhaa.Pure
