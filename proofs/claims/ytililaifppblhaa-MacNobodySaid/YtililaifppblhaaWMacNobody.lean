/- Walk: MacNobody: a nil Hasher tells nothing. -/
import Derived.Test.YtililaifppblhaaAwk
namespace Go.Proofs.Ytililaifppblhaa.Sha
open Go Go.RowKit Go.Proofs.Ytililaifppblhaa Go.Proofs.YtililaifppblhaaW.PrintWords
set_option linter.unusedVariables false
set_option linter.unusedSimpArgs false
set_option maxHeartbeats 1000000 in
theorem nobody_walk (s : ByteArray) (w : World) (_hs : s.size ≤ 140737488351232) : Calls Try.prog 5 #[.string s] w fun e w' => e = .returned (.bool true) ∧ Below w.heap.size w w' := by
  have hup := Try.underlying26
  go_enter Try.func5, Try.ntmps5
  go_wp2_with (first
    | (go_at_call 16; refine (nil_write _ _).mono ?_; rintro e1 w1 ⟨rfl, rfl⟩)
    | (go_at_call 11; refine (awake_any _).mono ?_; rintro e1 w1 ⟨rfl, hb⟩; have Hb := Aside0.mk hb; clear hb)
    | (go_at_call 17; refine (nil_sum _).mono ?_; rintro e1 w1 ⟨rfl, rfl⟩)
    | (go_at_call 18; refine (nil_len _).mono ?_; rintro e1 w1 ⟨rfl, rfl⟩)
    | (go_at_call 15; refine (nil_fork _).mono ?_; rintro e1 w1 ⟨rfl, rfl⟩))
  go_ret
  exact ⟨rfl, Hb.out⟩
end Go.Proofs.Ytililaifppblhaa.Sha
