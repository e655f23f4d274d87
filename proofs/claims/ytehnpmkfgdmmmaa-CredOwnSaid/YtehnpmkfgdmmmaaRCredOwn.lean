/- The row of CredOwn: the law answers true for every input, and the input reads as it did. Written by a program of this session over its walk. -/
import Derived.Test.YtehnpmkfgdmmmaaRows
import Derived.Test.YtehnpmkfgdmmmaaOpen
import Derived.Test.YtehnpmkfgdmmmaaCrV
import Derived.WalkKit
import Derived.ProofKit
import Derived.Lib.SmallJoins
import Derived.Carry
import Derived.OpenShut
import Derived.ShutString
import Derived.ChangeOld
import Derived.Below
import Derived.SizedLaws
import Derived.JoinedCond
import Derived.Deep.CondSized
namespace Go.Proofs.Ytehnpmkfgdmmmaa.credOwn
open Go.ChangeShapes Go.WideShapes Go.ChangeAt Go.RowKit Go.Joins Go.Deep Go.Proofs.YtehnpmkfgdmmmaaW.PrintWords
open Go.Proofs.Ytehnpmkfgdmmmaa.PK
open Go.ChangeMaps (open_string shut_string)
set_option linter.unusedVariables false
set_option linter.unusedSimpArgs false
theorem own : ownKnob Try.prog.godebug = none := by kernel_rfl
theorem laidOut : laidOutB Try.prog = true := by kernel_rfl
def ok24 (x : S24) : Prop := (x.f0.size ≤ 140737488351232) ∧ (x.f1.size ≤ 140737488351232) ∧ ((Lit.int .i64 x.f2).wf = true)
def wt24 (x : S24) : Nat := ((x.f0.size + 1) + ((x.f1.size + 1) + (1))) + 1
set_option maxRecDepth 100000 in
theorem opens24 : Opn.Opens k24 24 ok24 wt24 := Opn.opens_struct (fun x : S24 => (x.f0, x.f1, x.f2)) (fun p => ⟨p.1, p.2.1, p.2.2⟩) (fun _ => rfl) Try.underlying24 (by kernel_rfl) (Opn.fields_cons (Opn.opens_string Try.underlying9 (by kernel_rfl)) (by rfl) (Opn.fields_cons (Opn.opens_string Try.underlying9 (by kernel_rfl)) (by rfl) (Opn.fields_one (Opn.opens_int Try.underlying3 (by kernel_rfl)) (by rfl))))
set_option maxRecDepth 100000 in
theorem lifted (os : Os) (started : os.Started) (H : Type) (enc : TypeId × Value → H) :
    ReturnsInHanded {} Try.checked os 5 .any (Rows.credOwnSpec.pre6 enc Try.prog Try.f5 Rows.credOwnRow.domain false) (Rows.credOwnSpec.post enc Try.prog Try.f5 false true false false) := by
  refine returnsInHanded_of_change_sized (C := Try.checked) own started (by kernel_rfl) Try.func5
    (ChangeSpec.witness6 (enc := enc) (C := Try.checked) false ⟨#[], #[.slice none 0 0, .int .i64 0, .int .i64 0, .int .u8 0], []⟩ 8 (by kernel_rfl) (by kernel_rfl) (by kernel_rfl) (by kernel_rfl)) ?_
  intro W base args ds gs before hval0 hW hcnd hsz0 _
  have hsz : (DataW.weightsEach Try.prog (Try.f5.params.toList ++ Rows.credOwnSpec.plain.varTypes Try.prog) (ds ++ gs)).all (· ≤ reachBytes) = true := hsz0
  have hval : ∀ (j : Nat) t v, Try.f5.params[j]? = some t → args[j]? = some v → Value.okWide Try.prog W .any base t v := hval0
  have hW' := hW
  obtain ⟨p, q, hA0, hV, rfl, hfz, hnd⟩ := hW
  have hA : DataW.TrodAll enc Try.prog W 0 (fun _ => true) true Try.f5.params.toList args.toList ds p := hA0
  rw [Try.params5] at hA hval hsz
  obtain ⟨v0, vs0, d0, ds0, p0, q0, hargs, rfl, rfl, h0, r0⟩ := trodAll_cons hA
  obtain ⟨v1, vs1, d1, ds1, p1, q1, rfl, rfl, rfl, h1, r1⟩ := trodAll_cons r0
  obtain ⟨v2, vs2, d2, ds2, p2, q2, rfl, rfl, rfl, h2, r2⟩ := trodAll_cons r1
  obtain ⟨v3, vs3, d3, ds3, p3, q3, rfl, rfl, rfl, h3, r3⟩ := trodAll_cons r2
  obtain ⟨rfl, rfl, rfl⟩ := trodAll_nil r3
  obtain rfl : args = #[v0, v1, v2, v3] := by cases args; simp_all
  obtain ⟨rfl, rfl⟩ := trodVars_none hV
  have k0 := h0
  have lt0 : ∀ x ∈ p0, x.block < W.heap.size := by obtain ⟨m, hm⟩ := k0; exact DataW.trod_lt m _ _ _ hm
  obtain ⟨y0, K0, O0, B0⟩ := Opn.Opens.arg (Opn.opens_slice 40 Try.underlying22 (by kernel_rfl) (by kernel_rfl) opens24) h0
  have o0 := O0 (Opn.light_of hsz 0 22 d0 rfl rfl)
  obtain ⟨a0, len0, cap0, rfl⟩ := okWide_slice Try.underlying22 (hval 0 22 v0 rfl rfl)
  obtain ⟨A0, C0, e0, L0, K0⟩ := K0
  simp [Value.cells] at e0
  obtain ⟨rfl, rfl, rfl⟩ := e0
  have k1 := h1
  have lt1 : ∀ x ∈ p1, x.block < W.heap.size := by obtain ⟨m, hm⟩ := k1; exact DataW.trod_lt m _ _ _ hm
  obtain ⟨y1, K1, O1, B1⟩ := Opn.Opens.arg (Opn.opens_int Try.underlying3 (by kernel_rfl)) h1
  have o1 := O1 (Opn.light_of hsz 1 3 d1 rfl rfl)
  obtain ⟨a1, rfl, hd1, _, _⟩ := open_int Try.underlying3 (hval 1 3 v1 rfl rfl) k1
  have e1 : [_] = [_] := K1
  simp [Value.cells] at e1
  subst e1
  have k2 := h2
  have lt2 : ∀ x ∈ p2, x.block < W.heap.size := by obtain ⟨m, hm⟩ := k2; exact DataW.trod_lt m _ _ _ hm
  obtain ⟨y2, K2, O2, B2⟩ := Opn.Opens.arg (Opn.opens_int Try.underlying3 (by kernel_rfl)) h2
  have o2 := O2 (Opn.light_of hsz 2 3 d2 rfl rfl)
  obtain ⟨a2, rfl, hd2, _, _⟩ := open_int Try.underlying3 (hval 2 3 v2 rfl rfl) k2
  have e2 : [_] = [_] := K2
  simp [Value.cells] at e2
  subst e2
  have k3 := h3
  have lt3 : ∀ x ∈ p3, x.block < W.heap.size := by obtain ⟨m, hm⟩ := k3; exact DataW.trod_lt m _ _ _ hm
  obtain ⟨y3, K3, O3, B3⟩ := Opn.Opens.arg (Opn.opens_int Try.underlying5 (by kernel_rfl)) h3
  have o3 := O3 (Opn.light_of hsz 3 5 d3 rfl rfl)
  obtain ⟨a3, rfl, hd3, _, _⟩ := open_int Try.underlying5 (hval 3 5 v3 rfl rfl) k3
  have e3 : [_] = [_] := K3
  simp [Value.cells] at e3
  subst e3
  clear hA0 hval0 hsz0 hsz
  refine (Pure.own_walk a0 cap0 y0 a1 a2 a3 W K0 L0 o0 o1 o2 o3).mono fun e W' ⟨he, bel⟩ => ?_
  subst he
  exact ⟨_, rfl, _, _, _, [], _, [], hW', trodAll_mk1 (shut_bool Try.underlying4 _), (trodAll_cons_mk (Below.trod laidOut (by kernel_rfl) (of_decide_eq_true (by kernel_rfl)) k0 bel lt0) (trodAll_cons_mk (Below.trod laidOut (by kernel_rfl) (of_decide_eq_true (by kernel_rfl)) k1 bel lt1) (trodAll_cons_mk (Below.trod laidOut (by kernel_rfl) (of_decide_eq_true (by kernel_rfl)) k2 bel lt2) (trodAll_cons_mk (Below.trod laidOut (by kernel_rfl) (of_decide_eq_true (by kernel_rfl)) k3 bel lt3) trodAll_mk0)))), rfl, bel.frame _, fun h => by cases h⟩
theorem over : Rows.credOwnRow.holds Try.pinned (OpenSpec.ofChange Rows.credOwnSpec) :=
  OpenClaim.holds_of_wide 5 Try.f5 rfl rfl rfl rfl rfl rfl rfl ⟨rfl, rfl, rfl, rfl, rfl⟩ rfl rfl rfl rfl rfl (by kernel_rfl) Try.func5 (by kernel_rfl)
    (of_decide_eq_true (by kernel_rfl)) (by unfold Func.isWrapper; first | (rw [if_pos (by decide +kernel)]; kernel_rfl) | (rw [if_neg (by decide +kernel)]; exact ⟨rfl, rfl⟩))
    (fun os started H enc _ => lifted os started H enc)
theorem proved : Rows.CredOwnSaid := over
#print axioms proved
end Go.Proofs.Ytehnpmkfgdmmmaa.credOwn
namespace Go.Proofs.Ytehnpmkfgdmmmaa
/-- The row, under a short name, for the claim. -/
theorem credOwn_holds : Rows.CredOwnSaid := credOwn.proved
end Go.Proofs.Ytehnpmkfgdmmmaa
