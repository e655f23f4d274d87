/- The row of CodecTurned: the law answers true for every input, and the input reads as it did. Written by a program of this session over its walk. -/
import Derived.Test.YtjlohahknngmmaaRows
import Derived.Test.YtjlohahknngmmaaOpen
import Derived.Test.YtjlohahknngmmaaWCodecTurned
import Derived.Test.YtjlohahknngmmaaTy
import Derived.WalkKit
import Derived.ProofKit
import Derived.Lib.SmallJoins
import Derived.Carry
import Derived.OpenShut
import Derived.ShutString
import Derived.ChangeOld
import Derived.Below
import Derived.SizedLaws
import Derived.JoinedCond
import Derived.Deep.CondSized
namespace Go.Proofs.Ytjlohahknngmmaa.codecTurned
open Go.ChangeShapes Go.WideShapes Go.ChangeAt Go.RowKit Go.Joins Go.Deep Go.Proofs.YtjlohahknngmmaaW.PrintWords
open Go.Proofs.Ytjlohahknngmmaa.Ty
open Go.ChangeMaps (open_string shut_string)
set_option linter.unusedVariables false
set_option linter.unusedSimpArgs false
theorem own : ownKnob Try.prog.godebug = none := by kernel_rfl
theorem laidOut : laidOutB Try.prog = true := by kernel_rfl
def ok63 (x : S63) : Prop := ((Lit.int .u8 x.f0).wf = true) ∧ (x.f1.size ≤ 140737488351232) ∧ ((Lit.int .i64 x.f2).wf = true) ∧ ((Lit.int .u32 x.f3).wf = true)
def wt63 (x : S63) : Nat := (1 + ((x.f1.size + 1) + (1 + (1)))) + 1
theorem opens63 : Opn.Opens k63 63 ok63 wt63 := Opn.opens_struct (fun x : S63 => (x.f0, x.f1, x.f2, x.f3)) (fun p => ⟨p.1, p.2.1, p.2.2.1, p.2.2.2⟩) (fun _ => rfl) Try.underlying63 (by kernel_rfl) (Opn.fields_cons (Opn.opens_int Try.underlying5 (by kernel_rfl)) (by rfl) (Opn.fields_cons (Opn.opens_string Try.underlying9 (by kernel_rfl)) (by rfl) (Opn.fields_cons (Opn.opens_int Try.underlying3 (by kernel_rfl)) (by rfl) (Opn.fields_one (Opn.opens_int Try.underlying50 (by kernel_rfl)) (by rfl)))))
set_option maxRecDepth 100000 in
theorem lifted (os : Os) (started : os.Started) (H : Type) (enc : TypeId × Value → H) :
    ReturnsInHanded {} Try.checked os 10 .any (Rows.codecTurnedSpec.pre6 enc Try.prog Try.f10 Rows.codecTurnedRow.domain false) (Rows.codecTurnedSpec.post enc Try.prog Try.f10 false true false false) := by
  refine returnsInHanded_of_change_sized (C := Try.checked) own started (by kernel_rfl) Try.func10
    (ChangeSpec.witness6 (enc := enc) (C := Try.checked) false ⟨#[], #[.agg #[.int .u8 0, .string ByteArray.empty, .int .i64 0, .int .u32 0]], []⟩ 8 (by kernel_rfl) (by kernel_rfl) (by kernel_rfl) (by kernel_rfl)) ?_
  intro W base args ds gs before hval0 hW hcnd hsz0 _
  have hsz : (DataW.weightsEach Try.prog (Try.f10.params.toList ++ Rows.codecTurnedSpec.plain.varTypes Try.prog) (ds ++ gs)).all (· ≤ reachBytes) = true := hsz0
  have hval : ∀ (j : Nat) t v, Try.f10.params[j]? = some t → args[j]? = some v → Value.okWide Try.prog W .any base t v := hval0
  have hW' := hW
  obtain ⟨p, q, hA0, hV, rfl, hfz, hnd⟩ := hW
  have hA : DataW.TrodAll enc Try.prog W 0 (fun _ => true) true Try.f10.params.toList args.toList ds p := hA0
  rw [Try.params10] at hA hval hsz
  obtain ⟨v0, vs0, d0, ds0, p0, q0, hargs, rfl, rfl, h0, r0⟩ := trodAll_cons hA
  obtain ⟨rfl, rfl, rfl⟩ := trodAll_nil r0
  obtain rfl : args = #[v0] := by cases args; simp_all
  obtain ⟨rfl, rfl⟩ := trodVars_none hV
  have k0 := h0
  have lt0 : ∀ x ∈ p0, x.block < W.heap.size := by obtain ⟨m, hm⟩ := k0; exact DataW.trod_lt m _ _ _ hm
  obtain ⟨y0, K0, O0, B0⟩ := Opn.Opens.arg opens63 h0
  have o0 := O0 (Opn.light_of hsz 0 63 d0 rfl rfl)
  obtain ⟨cs0, rfl, hn0⟩ := okWide_struct Try.underlying63 (hval 0 63 v0 rfl rfl)
  clear hA0 hval0 hsz0 hsz
  refine (turned_walk cs0 y0 W K0 o0).mono fun e W' ⟨he, bel⟩ => ?_
  subst he
  exact ⟨_, rfl, _, _, _, [], _, [], hW', trodAll_mk1 (shut_bool Try.underlying4 _), (trodAll_cons_mk (Below.trod laidOut (by kernel_rfl) (of_decide_eq_true (by kernel_rfl)) k0 bel lt0) trodAll_mk0), rfl, bel.frame _, fun h => by cases h⟩
theorem over : Rows.codecTurnedRow.holds Try.pinned (OpenSpec.ofChange Rows.codecTurnedSpec) :=
  OpenClaim.holds_of_wide 10 Try.f10 rfl rfl rfl rfl rfl rfl rfl ⟨rfl, rfl, rfl, rfl, rfl⟩ rfl rfl rfl rfl rfl (by kernel_rfl) Try.func10 (by kernel_rfl)
    (of_decide_eq_true (by kernel_rfl)) (by unfold Func.isWrapper; first | (rw [if_pos (by decide +kernel)]; kernel_rfl) | (rw [if_neg (by decide +kernel)]; exact ⟨rfl, rfl⟩))
    (fun os started H enc _ => lifted os started H enc)
theorem proved : Rows.CodecTurnedSaid := over
#print axioms proved
end Go.Proofs.Ytjlohahknngmmaa.codecTurned
namespace Go.Proofs.Ytjlohahknngmmaa
/-- The row, under a short name, for the claim. -/
theorem codecTurned_holds : Rows.CodecTurnedSaid := codecTurned.proved
end Go.Proofs.Ytjlohahknngmmaa
