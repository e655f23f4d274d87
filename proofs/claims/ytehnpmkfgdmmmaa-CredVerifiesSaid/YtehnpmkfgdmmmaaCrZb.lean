/- Plain laws and the walk of CredVerifies. -/
import Derived.Test.YtehnpmkfgdmmmaaCrZa
import Derived.Test.YtehnpmkfgdmmmaaPKx5
namespace Go.Proofs.Ytehnpmkfgdmmmaa.Pure
open Go Go.RowKit Go.Proofs.Ytehnpmkfgdmmmaa Go.Proofs.Ytehnpmkfgdmmmaa.PK Go.Proofs.YtehnpmkfgdmmmaaW.PrintWords Go.Proofs.YtehnpmkfgdmmmaaW.PrintLast
set_option linter.unusedVariables false
set_option linter.unusedSimpArgs false

theorem rverL (l : List S24) (s : ByteArray) (h16 : l.length ≤ 16) : ∀ (d i : Nat), i + d = l.length → Ev (fun k => atriumref21_Verify.l0 k l s (i : Int)) (verAt l s d i)
  | 0, i, h => by
    refine Ev.step (f := fun k => _) (fun k => by rw [atriumref21_Verify.l0]) ?_
    exact evIfNeg (by omega) (Ev.now _)
  | d + 1, i, h => by
    refine Ev.step (f := fun k => _) (fun k => by rw [atriumref21_Verify.l0]) ?_
    refine evIfPos (by omega) (evIfPos (by omega) ?_)
    refine Ev.bind (evRMint _) ?_
    rw [verAt]
    by_cases hq : (mintT (rd_T24 l (i : Int))).1 = s
    · rw [if_pos hq]
      exact evIfPos (by rw [hq]) (Ev.now _)
    · rw [if_neg hq]
      refine evIfNeg (fun h2 => hq (toList_inj.1 h2)) ?_
      rw [wrap64_succ (by omega)]
      exact rverL l s h16 d (i + 1) (by omega)
theorem evRVer (l : List S24) (s : ByteArray) : Ev (fun k => atriumref21_Verify.f k l s) (verT l s) := by
  simp only [atriumref21_Verify.f]
  refine Ev.bind (evCheck l) ?_
  unfold verT
  by_cases h : chk l = 0
  · rw [if_pos h]
    refine evIfPos h ?_
    exact rverL l s (chk_len l h).2.1 l.length 0 (by omega)
  · rw [if_neg h]
    exact evIfNeg h (Ev.now _)
theorem evRBear (s : ByteArray) (hs : s.size ≤ 140737488355328) : atriumref21_Bearer.f s = some (bearT s) := by
  unfold atriumref21_Bearer.f bearT
  by_cases h : s.size < 8
  · rw [if_pos (by omega), if_neg (by omega)]
  · rw [if_neg (by omega), if_pos (by omega), if_pos (by omega)]
    have e : atriumref15_Lower.f (s.extract 0 7) = some (lowS (s.extract 0 7)) := if_pos (by rw [ByteArray.size_extract]; omega)
    rw [e, Option.bind_some, lowS_list, ext_list, List.drop_zero]
    show (if (s.data.toList.take 7).map lowB = brr ++ [32] then some (s.extract 7 s.size, (0 : Int)) else some (⟨#[]⟩, 210)) = _
    by_cases h2 : (s.data.toList.take 7).map lowB = brr ++ [32]
    · rw [if_pos h2, if_pos ⟨by omega, h2⟩]
    · rw [if_neg h2, if_neg (fun h3 => h2 h3.2)]
theorem evRWho (l : List S24) (vs : List ByteArray) (hv : ∀ v ∈ vs, v.size ≤ 140737488355328) : Ev (fun k => atriumref21_Who.f k l vs) (whoT l vs) := by
  simp only [atriumref21_Who.f]
  refine Ev.bind (evCheck l) ?_
  unfold whoT
  by_cases h : chk l = 0
  · rw [if_pos h]
    refine evIfPos h ?_
    by_cases h1 : vs.length = 1
    · rw [if_pos h1]
      refine evIfPos (by omega) (evIfPos (by omega) ?_)
      refine evBindc (evRBear _ (rd0_size vs hv)) ?_
      by_cases hb : (bearT (rdOf ByteArray.empty vs 0)).2 = 0
      · rw [if_pos hb]
        refine evIfPos hb ?_
        exact Ev.bind (evRVer l _) (Ev.now _)
      · rw [if_neg hb]
        exact evIfNeg hb (Ev.now _)
    · rw [if_neg h1]
      exact evIfNeg (by omega) (Ev.now _)
  · rw [if_neg h]
    exact evIfNeg h (Ev.now _)

theorem CredVerifies (l : List S24) (s : ByteArray) (vs : List ByteArray) (hl : ∀ t ∈ l, t.f0.size ≤ 140737488355328) (hs : s.size ≤ 140737488355328) (hv : ∀ v ∈ vs, v.size ≤ 140737488355328) : ∃ k, atriumlaw21_CredVerifies.f k l s vs = some true := by
  apply Ev.rounds
  simp only [atriumlaw21_CredVerifies.f]
  refine Ev.bind (evVer l s hl) ?_
  refine Ev.bind (evRVer l s) ?_
  refine evBindc (cut_bear s hs) ?_
  refine evBindc (evRBear s hs) ?_
  refine Ev.bind (evWho l vs hl hv) ?_
  refine Ev.bind (evRWho l vs hv) ?_
  refine Ev.bind evLives ?_
  refine evIfPos rfl (evIfPos rfl (evIfPos rfl (evIfPos rfl (evIfPos rfl (evIfPos rfl ?_)))))
  rw [show ((whoT l vs).2 == (whoT l vs).2) = true by simp]
  exact Ev.now _

theorem verifies_walk (A : Option Addr) (c : Nat) (l : List S24) (s : ByteArray) (A2 : Option Addr) (c2 : Nat) (vs : List ByteArray) (W : World) (hC : Kd.C k24 W A l.length l) (hc : l.length ≤ c)
    (ho : l.length * 40 ≤ 140737488351232 ∧ ∀ x ∈ l, (x.f0.size ≤ 140737488351232) ∧ (x.f1.size ≤ 140737488351232) ∧ ((Lit.int .i64 x.f2).wf = true)) (hs : s.size ≤ 140737488351232)
    (hV : Kd.C Kd.string W A2 vs.length vs) (hc2 : vs.length ≤ c2) (hv : vs.length * 16 ≤ 140737488351232 ∧ ∀ x ∈ vs, x.size ≤ 140737488351232) :
    Calls Try.prog 4 #[.slice A l.length c, .string s, .slice A2 vs.length c2] W fun e w' => e = .returned (.bool true) ∧ Below W.heap.size W w' := by
  obtain ⟨k, hk⟩ := CredVerifies l s vs (fun t ht => Nat.le_trans (ho.2 t ht).1 (by omega)) (Nat.le_trans hs (by omega)) (fun t ht => Nat.le_trans (hv.2 t ht) (by omega))
  exact atriumlaw21_CredVerifies.calls k A c l s A2 c2 vs true W hC hc hV hc2 hk
end Go.Proofs.Ytehnpmkfgdmmmaa.Pure
