/- The row of MacPieces: the law answers true for every input of bulk at most 1048576, and the input reads as it did. Written by a program of this session over its walk. -/
import Derived.Test.YtililaifppblhaaRows
import Derived.Test.YtililaifppblhaaOpen
import Derived.Test.YtililaifppblhaaWMacPieces
import Derived.Test.YtililaifppblhaaTy
import Derived.WalkKit
import Derived.ProofKit
import Derived.Lib.SmallJoins
import Derived.Carry
import Derived.OpenShut
import Derived.ShutString
import Derived.ChangeOld
import Derived.Below
import Derived.SizedLaws
import Derived.JoinedCond
import Derived.Deep.CondSized
namespace Go.Proofs.Ytililaifppblhaa.macPiecesUpto
open Go.ChangeShapes Go.WideShapes Go.ChangeAt Go.RowKit Go.Joins Go.Deep Go.Proofs.YtililaifppblhaaW.PrintWords
open Go.Proofs.Ytililaifppblhaa.Ty
open Go.ChangeMaps (open_string shut_string)
set_option linter.unusedVariables false
set_option linter.unusedSimpArgs false
theorem own : ownKnob Try.prog.godebug = none := by kernel_rfl
theorem laidOut : laidOutB Try.prog = true := by kernel_rfl
def ok30 (x : S30) : Prop := (x.f0.size ≤ 140737488351232) ∧ (True) ∧ (True)
def wt30 (x : S30) : Nat := ((x.f0.size + 1) + (1 + (1))) + 1
theorem opens30 : Opn.Opens k30 30 ok30 wt30 := Opn.opens_struct (fun x : S30 => (x.f0, x.f1, x.f2)) (fun p => ⟨p.1, p.2.1, p.2.2⟩) (fun _ => rfl) Try.underlying30 (by kernel_rfl) (Opn.fields_cons (Opn.opens_string Try.underlying9 (by kernel_rfl)) (by rfl) (Opn.fields_cons (Opn.opens_bool Try.underlying4 (by kernel_rfl)) (by rfl) (Opn.fields_one (Opn.opens_bool Try.underlying4 (by kernel_rfl)) (by rfl))))
set_option maxRecDepth 100000 in
theorem lifted (os : Os) (started : os.Started) (H : Type) (enc : TypeId × Value → H) (F : Stop.Interp) :
    ReturnsInHanded {} Try.checked os 4 .any ((Rows.OpenSpec.upto Rows.macPiecesSpec).pre6 enc Try.prog Try.f4 Rows.macPiecesUptoRow.domain false) (((Rows.OpenSpec.upto Rows.macPiecesSpec).at F).post enc Try.prog Try.f4 false true false false) := by
  refine returnsInHanded_of_cond_sized (C := Try.checked) (s := (Rows.OpenSpec.upto Rows.macPiecesSpec)) (k := Rows.uptoSmall) rfl own started (by kernel_rfl) Try.func4
    (OpenSpec.witness (enc := enc) (C := Try.checked) (s := (Rows.OpenSpec.upto Rows.macPiecesSpec)) (k := Rows.uptoSmall) rfl false ⟨#[], #[.slice none 0 0], []⟩ 8 (by kernel_rfl) (by kernel_rfl) (by kernel_rfl)
      (x := ([.nil], [], [])) (by kernel_rfl) rfl (by kernel_rfl)) ?_
  intro W base args ds gs before hval0 hW hcnd hk hsz0 _
  have hsz : (DataW.weightsEach Try.prog (Try.f4.params.toList ++ Rows.macPiecesSpec.plain.varTypes Try.prog) (ds ++ gs)).all (· ≤ reachBytes) = true := hsz0
  have hval : ∀ (j : Nat) t v, Try.f4.params[j]? = some t → args[j]? = some v → Value.okWide Try.prog W .any base t v := hval0
  have hW' := hW
  obtain ⟨p, q, hA0, hV, rfl, hfz, hnd⟩ := hW
  have hA : DataW.TrodAll enc Try.prog W 0 (fun _ => true) true Try.f4.params.toList args.toList ds p := hA0
  rw [Try.params4] at hA hval hsz
  obtain ⟨v0, vs0, d0, ds0, p0, q0, hargs, rfl, rfl, h0, r0⟩ := trodAll_cons hA
  obtain ⟨rfl, rfl, rfl⟩ := trodAll_nil r0
  obtain rfl : args = #[v0] := by cases args; simp_all
  obtain ⟨rfl, rfl⟩ := trodVars_none hV
  have k0 := h0
  have lt0 : ∀ x ∈ p0, x.block < W.heap.size := by obtain ⟨m, hm⟩ := k0; exact DataW.trod_lt m _ _ _ hm
  obtain ⟨y0, K0, O0, B0⟩ := Opn.Opens.arg (Opn.opens_slice 24 Try.underlying25 (by kernel_rfl) (by kernel_rfl) opens30) h0
  have o0 := O0 (Opn.light_of hsz 0 25 d0 rfl rfl)
  obtain ⟨a0, len0, cap0, rfl⟩ := okWide_slice Try.underlying25 (hval 0 25 v0 rfl rfl)
  obtain ⟨A0, C0, e0, L0, K0⟩ := K0
  simp [Value.cells] at e0
  obtain ⟨rfl, rfl, rfl⟩ := e0
  have hb := of_decide_eq_true hk
  simp only [Rows.uptoBulkAll, List.cons_append, List.nil_append, List.append_nil] at hb
  have hbulk : (Opn.lwt (fun x => (wt30 x)) y0 + 1) ≤ 1048576 := by
    have z0 : (Opn.lwt (fun x => (wt30 x)) y0 + 1) ≤ Rows.uptoBulk d0 := by exact B0
    omega
  clear hA0 hval0 hsz0 hsz
  refine (Sha.pieces_walk a0 cap0 y0 W K0 L0 o0 hbulk).mono fun e W' ⟨he, bel⟩ => ?_
  subst he
  exact ⟨_, rfl, _, _, _, [], _, [], hW', trodAll_mk1 (shut_bool Try.underlying4 _), (trodAll_cons_mk (Below.trod laidOut (by kernel_rfl) (of_decide_eq_true (by kernel_rfl)) k0 bel lt0) trodAll_mk0), rfl, bel.frame _, fun h => by cases h⟩
theorem over : Rows.macPiecesUptoRow.holds Try.pinned (Rows.OpenSpec.upto Rows.macPiecesSpec) :=
  OpenClaim.holds_of_cond 4 Try.f4 rfl rfl rfl rfl rfl rfl rfl ⟨rfl, rfl, rfl, rfl, rfl⟩ rfl rfl rfl rfl rfl (by kernel_rfl) Try.func4 (by kernel_rfl)
    (of_decide_eq_true (by kernel_rfl)) (by unfold Func.isWrapper; first | (rw [if_pos (by decide +kernel)]; kernel_rfl) | (rw [if_neg (by decide +kernel)]; exact ⟨rfl, rfl⟩))
    (fun os started H enc _ F => lifted os started H enc F)
theorem proved : Rows.MacPiecesUptoSaid := over
#print axioms proved
end Go.Proofs.Ytililaifppblhaa.macPiecesUpto
namespace Go.Proofs.Ytililaifppblhaa
/-- The row, under a short name, for the claim. -/
theorem macPiecesUpto_holds : Rows.MacPiecesUptoSaid := macPiecesUpto.proved
end Go.Proofs.Ytililaifppblhaa
