/- The row of HttpParses: the law answers true for every input, and the input reads as it did. Written by a program of this session over its walk. -/
import Derived.Test.YtckbcnmcnhahhaaDoorRows
import Derived.Test.YtckbcnmcnhahhaaDoorOpen
import Derived.Test.YtckbcnmcnhahhaaDoorRowS
import Derived.Test.YtckbcnmcnhahhaaDoorHpPa
import Derived.Test.YtckbcnmcnhahhaaDoorHpE
import Derived.Test.YtckbcnmcnhahhaaDoorCards
import Derived.Test.YtckbcnmcnhahhaaDoorTie
import Derived.LaidMore
import Derived.Lay
import Derived.SevenTiedAt
import Derived.Stop.Joined
import Derived.Handed
import Derived.WalkKit
import Derived.ProofKit
import Derived.Lib.SmallJoins
import Derived.Carry
import Derived.OpenShut
import Derived.ShutString
import Derived.ChangeOld
import Derived.Below
import Derived.SizedLaws
import Derived.JoinedCond
import Derived.Deep.CondSized
namespace Go.Proofs.YtckbcnmcnhahhaaDoor.httpParses
open Go.ChangeShapes Go.WideShapes Go.ChangeAt Go.RowKit Go.Joins Go.Deep Go.Proofs.YtckbcnmcnhahhaaDoorW.PrintWords
open Go.Proofs.YtckbcnmcnhahhaaDoor.PG
open Go.ChangeMaps (open_string shut_string)
set_option linter.unusedVariables false
set_option linter.unusedSimpArgs false
theorem own : ownKnob Tryd.prog.godebug = none := by kernel_rfl
theorem laidOut : laidOutB Tryd.prog = true := by kernel_rfl
set_option maxRecDepth 100000 in
theorem lifted (os : Os) (started : os.Started) (H : Type) (enc : TypeId × Value → H) :
    ReturnsInHanded {} Tryd.checked os 4 .any (fun w args => (Rows.httpParsesSpec.pre enc Tryd.prog Tryd.f4 Rows.httpParsesRow.domain false w args ∧ laidMetH Tryd.prog Rows.httpParsesRow.laid w) ∧ sizedMet enc Tryd.prog Tryd.f4 (OpenSpec.ofChange Rows.httpParsesSpec) false w args) (Rows.httpParsesSpec.post enc Tryd.prog Tryd.f4 false true false false) := by
  refine RowS.handed_of_change_and (C := Tryd.checked) (X := fun w _ => laidMetH Tryd.prog Rows.httpParsesRow.laid w) (fun _ _ _ hh h => h.of_heap hh) own started (by kernel_rfl) Tryd.func4
    (ChangeSpec.witness_shaped (enc := enc) (C := Tryd.checked) (os := os) (X := fun w _ => laidMetH Tryd.prog Rows.httpParsesRow.laid w) false (World.laidAll Tryd.prog os Rows.httpParsesRow.laid) #[.string ByteArray.empty, .string ByteArray.empty] 8 (World.laidAll_os _ _ _)
      (World.shaped_of_ZipB (by kernel_rfl) (by kernel_rfl)) (by kernel_rfl) (by kernel_rfl) (by kernel_rfl)
      (by rw [MakeChecks.laidMetH_plain _ _ _ (by kernel_rfl)]; exact laidMet_laidAll _ (by kernel_rfl) (by kernel_rfl))) ?_
  intro W base args ds gs before hsh hval0 hW hcnd hsz0 _ _
  have hsz : (DataW.weightsEach Tryd.prog (Tryd.f4.params.toList ++ Rows.httpParsesSpec.plain.varTypes Tryd.prog) (ds ++ gs)).all (· ≤ reachBytes) = true := hsz0
  have hval : ∀ (j : Nat) t v, Tryd.f4.params[j]? = some t → args[j]? = some v → Value.okWide Tryd.prog W .any base t v := hval0
  have hW' := hW
  obtain ⟨p, q, hA0, hV, rfl, hfz, hnd⟩ := hW
  have hA : DataW.TrodAll enc Tryd.prog W 0 (fun _ => true) true Tryd.f4.params.toList args.toList ds p := hA0
  rw [Tryd.params4] at hA hval hsz
  obtain ⟨v0, vs0, d0, ds0, p0, q0, hargs, rfl, rfl, h0, r0⟩ := trodAll_cons hA
  obtain ⟨v1, vs1, d1, ds1, p1, q1, rfl, rfl, rfl, h1, r1⟩ := trodAll_cons r0
  obtain ⟨rfl, rfl, rfl⟩ := trodAll_nil r1
  obtain rfl : args = #[v0, v1] := by cases args; simp_all
  obtain ⟨rfl, rfl⟩ := trodVars_none hV
  have k0 := h0
  have lt0 : ∀ x ∈ p0, x.block < W.heap.size := by obtain ⟨m, hm⟩ := k0; exact DataW.trod_lt m _ _ _ hm
  obtain ⟨y0, K0, O0, B0⟩ := Opn.Opens.arg (Opn.opens_string Tryd.underlying9 (by kernel_rfl)) h0
  have o0 := O0 (Opn.light_of hsz 0 9 d0 rfl rfl)
  obtain ⟨a0, rfl, hd0, _, _⟩ := open_string Tryd.underlying9 (hval 0 9 v0 rfl rfl) k0
  have e0 : [_] = [_] := K0
  simp [Value.cells] at e0
  subst e0
  have k1 := h1
  have lt1 : ∀ x ∈ p1, x.block < W.heap.size := by obtain ⟨m, hm⟩ := k1; exact DataW.trod_lt m _ _ _ hm
  obtain ⟨y1, K1, O1, B1⟩ := Opn.Opens.arg (Opn.opens_string Tryd.underlying9 (by kernel_rfl)) h1
  have o1 := O1 (Opn.light_of hsz 1 9 d1 rfl rfl)
  obtain ⟨a1, rfl, hd1, _, _⟩ := open_string Tryd.underlying9 (hval 1 9 v1 rfl rfl) k1
  have e1 : [_] = [_] := K1
  simp [Value.cells] at e1
  subst e1
  clear hA0 hval0 hsz0 hsz
  refine (PG.atriumlaw17_HttpParses.walk Pure.HttpParses a0 a1 W o0 o1 (mx_shaped hsh)).mono fun e W' ⟨he, bel⟩ => ?_
  subst he
  exact ⟨_, rfl, _, _, _, [], _, [], hW', trodAll_mk1 (shut_bool Tryd.underlying4 _), (trodAll_cons_mk (Below.trod laidOut (by kernel_rfl) (of_decide_eq_true (by kernel_rfl)) k0 bel lt0) (trodAll_cons_mk (Below.trod laidOut (by kernel_rfl) (of_decide_eq_true (by kernel_rfl)) k1 bel lt1) trodAll_mk0)), rfl, bel.frame _, fun h => by cases h⟩
theorem over : Rows.httpParsesRow.holds Tryd.pinned (OpenSpec.ofChange Rows.httpParsesSpec) :=
  OpenClaim.holds_of_wide 4 Tryd.f4 rfl rfl rfl rfl rfl rfl rfl ⟨rfl, rfl, rfl, rfl, rfl⟩ rfl rfl rfl rfl rfl (by kernel_rfl) Tryd.func4 (by kernel_rfl)
    (of_decide_eq_true (by kernel_rfl)) (by unfold Func.isWrapper; first | (rw [if_pos (by decide +kernel)]; kernel_rfl) | (rw [if_neg (by decide +kernel)]; exact ⟨rfl, rfl⟩))
    (fun os started H enc _ => lifted os started H enc)
theorem proved : Rows.HttpParsesCardSaid :=
  Claim7.holds_tied_plain_at .later [] [.data, .pinned] true (true, "108fce350072dda7d72e7e6c6d7630eb2919568be64510e76b5dd3b61f767554") false
    over (fun _ h => by cases h) (by kernel_rfl) (fun _ h => by cases h) httpParses_row_tie rfl ⟨rfl, rfl⟩ (by kernel_rfl) rfl
    (fun f fn hf hfn => by
      obtain rfl : f = 4 := Option.some.inj ((show Tryd.prog.funcNamed "atrium/atriumlaw17.HttpParses" = some 4 by kernel_rfl).symm.trans hf) |>.symm
      obtain rfl : fn = Tryd.f4 := (Option.some.inj (Tryd.func4.symm.trans hfn)).symm
      exact ⟨by kernel_rfl, fun j t ht => by
        rw [Tryd.params4] at ht
        rcases j with _ | j
        · have h3 : t = 9 := by simpa using ht.symm
          subst h3
          exact (show Tryd.prog.wantsStandIn 9 = false by kernel_rfl)
        rcases j with _ | j
        · have h3 : t = 9 := by simpa using ht.symm
          subst h3
          exact (show Tryd.prog.wantsStandIn 9 = false by kernel_rfl)
        · simp at ht⟩)
    (by kernel_rfl)
#print axioms proved
end Go.Proofs.YtckbcnmcnhahhaaDoor.httpParses
namespace Go.Proofs.YtckbcnmcnhahhaaDoor
/-- The card, under a short name, for the claim. -/
theorem httpParsesCard_holds : Rows.HttpParsesCardSaid := httpParses.proved
end Go.Proofs.YtckbcnmcnhahhaaDoor
