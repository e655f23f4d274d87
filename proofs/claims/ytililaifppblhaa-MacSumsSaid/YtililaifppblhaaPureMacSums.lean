/- MacSums: every text's sum is what the document says: plain. No condition beyond the reach of a text (140737488351232 bytes). -/
import Derived.Test.YtililaifppblhaaPMx1
namespace Go.Proofs.Ytililaifppblhaa.Pure
open Go Go.RowKit Go.Proofs.Ytililaifppblhaa Go.Proofs.Ytililaifppblhaa.PM Go.Proofs.YtililaifppblhaaW.PrintWords Go.Proofs.YtililaifppblhaaW.PrintLast

theorem MacSums : atriumlaw04_MacSums.Pure := by
  intro a0 h0
  unfold atriumlaw04_MacSums.f
  rw [show atriumlaw04_awake.f = some true from rfl, show mac_Sum.f a0 = some (sumT a0) from if_pos (by omega), show atriumref04_Sum.f a0 = some (sumT a0) from if_pos (by omega)]
  simp
end Go.Proofs.Ytililaifppblhaa.Pure
