/- The row of VfsSwitch: the law answers true for every input, and the input reads as it did. Written by a program of this session over its walk. -/
import Derived.Test.YtamhecmopnekjaaRows
import Derived.Test.YtamhecmopnekjaaOpen
import Derived.Test.YtamhecmopnekjaaWVfsSwitch
import Derived.Test.YtamhecmopnekjaaTy
import Derived.WalkKit
import Derived.ProofKit
import Derived.Lib.SmallJoins
import Derived.Carry
import Derived.OpenShut
import Derived.ShutString
import Derived.ChangeOld
import Derived.Below
import Derived.SizedLaws
import Derived.JoinedCond
import Derived.Deep.CondSized
namespace Go.Proofs.Ytamhecmopnekjaa.vfsSwitch
open Go.ChangeShapes Go.WideShapes Go.ChangeAt Go.RowKit Go.Joins Go.Deep Go.Proofs.YtamhecmopnekjaaW.PrintWords
open Go.Proofs.Ytamhecmopnekjaa.Ty
open Go.ChangeMaps (open_string shut_string)
set_option linter.unusedVariables false
set_option linter.unusedSimpArgs false
theorem own : ownKnob Try.prog.godebug = none := by kernel_rfl
theorem laidOut : laidOutB Try.prog = true := by kernel_rfl
def ok25 (x : S25) : Prop := ((Lit.int .i64 x.f0).wf = true) ∧ (x.f1.length * 8 ≤ 140737488351232 ∧ ∀ e_xf1 ∈ x.f1, (Lit.int .i64 e_xf1).wf = true)
def wt25 (x : S25) : Nat := (1 + ((Opn.lwt (fun x => 1) x.f1 + 1))) + 1
set_option maxRecDepth 100000 in
theorem opens25 : Opn.Opens k25 25 ok25 wt25 := Opn.opens_struct (fun x : S25 => (x.f0, x.f1)) (fun p => ⟨p.1, p.2⟩) (fun _ => rfl) Try.underlying25 (by kernel_rfl) (Opn.fields_cons (Opn.opens_int Try.underlying3 (by kernel_rfl)) (by rfl) (Opn.fields_one (Opn.opens_slice 8 Try.underlying23 (by kernel_rfl) (by kernel_rfl) (Opn.opens_int Try.underlying3 (by kernel_rfl))) (by rfl)))
set_option maxRecDepth 100000 in
theorem lifted (os : Os) (started : os.Started) (H : Type) (enc : TypeId × Value → H) :
    ReturnsInHanded {} Try.checked os 3 .any (Rows.vfsSwitchSpec.pre6 enc Try.prog Try.f3 Rows.vfsSwitchRow.domain false) (Rows.vfsSwitchSpec.post enc Try.prog Try.f3 false true false false) := by
  refine returnsInHanded_of_change_sized (C := Try.checked) own started (by kernel_rfl) Try.func3
    (ChangeSpec.witness6 (enc := enc) (C := Try.checked) false ⟨#[], #[.slice none 0 0, .slice none 0 0, .agg #[.int .i64 0, .slice none 0 0], .bool false], []⟩ 8 (by kernel_rfl) (by kernel_rfl) (by kernel_rfl) (by kernel_rfl)) ?_
  intro W base args ds gs before hval0 hW hcnd hsz0 _
  have hsz : (DataW.weightsEach Try.prog (Try.f3.params.toList ++ Rows.vfsSwitchSpec.plain.varTypes Try.prog) (ds ++ gs)).all (· ≤ reachBytes) = true := hsz0
  have hval : ∀ (j : Nat) t v, Try.f3.params[j]? = some t → args[j]? = some v → Value.okWide Try.prog W .any base t v := hval0
  have hW' := hW
  obtain ⟨p, q, hA0, hV, rfl, hfz, hnd⟩ := hW
  have hA : DataW.TrodAll enc Try.prog W 0 (fun _ => true) true Try.f3.params.toList args.toList ds p := hA0
  rw [Try.params3] at hA hval hsz
  obtain ⟨v0, vs0, d0, ds0, p0, q0, hargs, rfl, rfl, h0, r0⟩ := trodAll_cons hA
  obtain ⟨v1, vs1, d1, ds1, p1, q1, rfl, rfl, rfl, h1, r1⟩ := trodAll_cons r0
  obtain ⟨v2, vs2, d2, ds2, p2, q2, rfl, rfl, rfl, h2, r2⟩ := trodAll_cons r1
  obtain ⟨v3, vs3, d3, ds3, p3, q3, rfl, rfl, rfl, h3, r3⟩ := trodAll_cons r2
  obtain ⟨rfl, rfl, rfl⟩ := trodAll_nil r3
  obtain rfl : args = #[v0, v1, v2, v3] := by cases args; simp_all
  obtain ⟨rfl, rfl⟩ := trodVars_none hV
  have k0 := h0
  have lt0 : ∀ x ∈ p0, x.block < W.heap.size := by obtain ⟨m, hm⟩ := k0; exact DataW.trod_lt m _ _ _ hm
  obtain ⟨y0, K0, O0, B0⟩ := Opn.Opens.arg (Opn.opens_slice 1 Try.underlying22 (by kernel_rfl) (by kernel_rfl) (Opn.opens_int Try.underlying5 (by kernel_rfl))) h0
  have o0 := O0 (Opn.light_of hsz 0 22 d0 rfl rfl)
  obtain ⟨a0, len0, cap0, rfl⟩ := okWide_slice Try.underlying22 (hval 0 22 v0 rfl rfl)
  obtain ⟨A0, C0, e0, L0, K0⟩ := K0
  simp [Value.cells] at e0
  obtain ⟨rfl, rfl, rfl⟩ := e0
  have k1 := h1
  have lt1 : ∀ x ∈ p1, x.block < W.heap.size := by obtain ⟨m, hm⟩ := k1; exact DataW.trod_lt m _ _ _ hm
  obtain ⟨y1, K1, O1, B1⟩ := Opn.Opens.arg (Opn.opens_slice 1 Try.underlying22 (by kernel_rfl) (by kernel_rfl) (Opn.opens_int Try.underlying5 (by kernel_rfl))) h1
  have o1 := O1 (Opn.light_of hsz 1 22 d1 rfl rfl)
  obtain ⟨a1, len1, cap1, rfl⟩ := okWide_slice Try.underlying22 (hval 1 22 v1 rfl rfl)
  obtain ⟨A1, C1, e1, L1, K1⟩ := K1
  simp [Value.cells] at e1
  obtain ⟨rfl, rfl, rfl⟩ := e1
  have k2 := h2
  have lt2 : ∀ x ∈ p2, x.block < W.heap.size := by obtain ⟨m, hm⟩ := k2; exact DataW.trod_lt m _ _ _ hm
  obtain ⟨y2, K2, O2, B2⟩ := Opn.Opens.arg opens25 h2
  have o2 := O2 (Opn.light_of hsz 2 25 d2 rfl rfl)
  obtain ⟨cs2, rfl, hn2⟩ := okWide_struct Try.underlying25 (hval 2 25 v2 rfl rfl)
  have k3 := h3
  have lt3 : ∀ x ∈ p3, x.block < W.heap.size := by obtain ⟨m, hm⟩ := k3; exact DataW.trod_lt m _ _ _ hm
  obtain ⟨y3, K3, O3, B3⟩ := Opn.Opens.arg (Opn.opens_bool Try.underlying4 (by kernel_rfl)) h3
  have o3 := O3 (Opn.light_of hsz 3 4 d3 rfl rfl)
  obtain ⟨a3, rfl, hd3, _⟩ := open_bool Try.underlying4 (hval 3 4 v3 rfl rfl) k3
  have e3 : [_] = [_] := K3
  simp [Value.cells] at e3
  subst e3
  clear hA0 hval0 hsz0 hsz
  refine (Vf.switch_walk a0 cap0 y0 a1 cap1 y1 cs2 y2 a3 W K0 L0 o0 K1 L1 o1 K2 o2).mono fun e W' ⟨he, bel⟩ => ?_
  subst he
  exact ⟨_, rfl, _, _, _, [], _, [], hW', trodAll_mk1 (shut_bool Try.underlying4 _), (trodAll_cons_mk (Below.trod laidOut (by kernel_rfl) (of_decide_eq_true (by kernel_rfl)) k0 bel lt0) (trodAll_cons_mk (Below.trod laidOut (by kernel_rfl) (of_decide_eq_true (by kernel_rfl)) k1 bel lt1) (trodAll_cons_mk (Below.trod laidOut (by kernel_rfl) (of_decide_eq_true (by kernel_rfl)) k2 bel lt2) (trodAll_cons_mk (Below.trod laidOut (by kernel_rfl) (of_decide_eq_true (by kernel_rfl)) k3 bel lt3) trodAll_mk0)))), rfl, bel.frame _, fun h => by cases h⟩
theorem over : Rows.vfsSwitchRow.holds Try.pinned (OpenSpec.ofChange Rows.vfsSwitchSpec) :=
  OpenClaim.holds_of_wide 3 Try.f3 rfl rfl rfl rfl rfl rfl rfl ⟨rfl, rfl, rfl, rfl, rfl⟩ rfl rfl rfl rfl rfl (by kernel_rfl) Try.func3 (by kernel_rfl)
    (of_decide_eq_true (by kernel_rfl)) (by unfold Func.isWrapper; first | (rw [if_pos (by decide +kernel)]; kernel_rfl) | (rw [if_neg (by decide +kernel)]; exact ⟨rfl, rfl⟩))
    (fun os started H enc _ => lifted os started H enc)
theorem proved : Rows.VfsSwitchSaid := over
#print axioms proved
end Go.Proofs.Ytamhecmopnekjaa.vfsSwitch
namespace Go.Proofs.Ytamhecmopnekjaa
/-- The row, under a short name, for the claim. -/
theorem vfsSwitch_holds : Rows.VfsSwitchSaid := vfsSwitch.proved
end Go.Proofs.Ytamhecmopnekjaa
