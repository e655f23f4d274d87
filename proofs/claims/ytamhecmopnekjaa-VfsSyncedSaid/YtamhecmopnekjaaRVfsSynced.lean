/- The row of VfsSynced: the law answers true for every input, and the input reads as it did. Written by a program of this session over its walk. -/
import Derived.Test.YtamhecmopnekjaaRows
import Derived.Test.YtamhecmopnekjaaOpen
import Derived.Test.YtamhecmopnekjaaWVfsSynced
import Derived.Test.YtamhecmopnekjaaTy
import Derived.WalkKit
import Derived.ProofKit
import Derived.Lib.SmallJoins
import Derived.Carry
import Derived.OpenShut
import Derived.ShutString
import Derived.ChangeOld
import Derived.Below
import Derived.SizedLaws
import Derived.JoinedCond
import Derived.Deep.CondSized
namespace Go.Proofs.Ytamhecmopnekjaa.vfsSynced
open Go.ChangeShapes Go.WideShapes Go.ChangeAt Go.RowKit Go.Joins Go.Deep Go.Proofs.YtamhecmopnekjaaW.PrintWords
open Go.Proofs.Ytamhecmopnekjaa.Ty
open Go.ChangeMaps (open_string shut_string)
set_option linter.unusedVariables false
set_option linter.unusedSimpArgs false
theorem own : ownKnob Try.prog.godebug = none := by kernel_rfl
theorem laidOut : laidOutB Try.prog = true := by kernel_rfl
def ok89 (x : S89) : Prop := ((Lit.int .i64 x.f0).wf = true) ∧ ((Lit.int .i64 x.f1).wf = true) ∧ ((Lit.int .i64 x.f2).wf = true)
def wt89 (x : S89) : Nat := (1 + (1 + (1))) + 1
set_option maxRecDepth 100000 in
theorem opens89 : Opn.Opens k89 89 ok89 wt89 := Opn.opens_struct (fun x : S89 => (x.f0, x.f1, x.f2)) (fun p => ⟨p.1, p.2.1, p.2.2⟩) (fun _ => rfl) Try.underlying89 (by kernel_rfl) (Opn.fields_cons (Opn.opens_int Try.underlying3 (by kernel_rfl)) (by rfl) (Opn.fields_cons (Opn.opens_int Try.underlying3 (by kernel_rfl)) (by rfl) (Opn.fields_one (Opn.opens_int Try.underlying3 (by kernel_rfl)) (by rfl))))
def ok25 (x : S25) : Prop := ((Lit.int .i64 x.f0).wf = true) ∧ (x.f1.length * 8 ≤ 140737488351232 ∧ ∀ e_xf1 ∈ x.f1, (Lit.int .i64 e_xf1).wf = true)
def wt25 (x : S25) : Nat := (1 + ((Opn.lwt (fun x => 1) x.f1 + 1))) + 1
set_option maxRecDepth 100000 in
theorem opens25 : Opn.Opens k25 25 ok25 wt25 := Opn.opens_struct (fun x : S25 => (x.f0, x.f1)) (fun p => ⟨p.1, p.2⟩) (fun _ => rfl) Try.underlying25 (by kernel_rfl) (Opn.fields_cons (Opn.opens_int Try.underlying3 (by kernel_rfl)) (by rfl) (Opn.fields_one (Opn.opens_slice 8 Try.underlying23 (by kernel_rfl) (by kernel_rfl) (Opn.opens_int Try.underlying3 (by kernel_rfl))) (by rfl)))
def ok50 (x : S50) : Prop := ((Lit.int .i64 x.f0).wf = true) ∧ (x.f1.size ≤ 140737488351232) ∧ (x.f2.size ≤ 140737488351232) ∧ ((Lit.int .i64 x.f3).wf = true) ∧ ((Lit.int .i64 x.f4).wf = true) ∧ (x.f5.length * 1 ≤ 140737488351232 ∧ ∀ e_xf5 ∈ x.f5, (Lit.int .u8 e_xf5).wf = true) ∧ (x.f6.length * 24 ≤ 140737488351232 ∧ ∀ e_xf6 ∈ x.f6, ok89 e_xf6) ∧ (ok25 x.f7)
def wt50 (x : S50) : Nat := (1 + ((x.f1.size + 1) + ((x.f2.size + 1) + (1 + (1 + ((Opn.lwt (fun x => 1) x.f5 + 1) + ((Opn.lwt (fun x => (wt89 x)) x.f6 + 1) + ((wt25 x.f7))))))))) + 1
set_option maxRecDepth 100000 in
theorem opens50 : Opn.Opens k50 50 ok50 wt50 := Opn.opens_struct (fun x : S50 => (x.f0, x.f1, x.f2, x.f3, x.f4, x.f5, x.f6, x.f7)) (fun p => ⟨p.1, p.2.1, p.2.2.1, p.2.2.2.1, p.2.2.2.2.1, p.2.2.2.2.2.1, p.2.2.2.2.2.2.1, p.2.2.2.2.2.2.2⟩) (fun _ => rfl) Try.underlying50 (by kernel_rfl) (Opn.fields_cons (Opn.opens_int Try.underlying3 (by kernel_rfl)) (by rfl) (Opn.fields_cons (Opn.opens_string Try.underlying9 (by kernel_rfl)) (by rfl) (Opn.fields_cons (Opn.opens_string Try.underlying9 (by kernel_rfl)) (by rfl) (Opn.fields_cons (Opn.opens_int Try.underlying3 (by kernel_rfl)) (by rfl) (Opn.fields_cons (Opn.opens_int Try.underlying3 (by kernel_rfl)) (by rfl) (Opn.fields_cons (Opn.opens_slice 1 Try.underlying22 (by kernel_rfl) (by kernel_rfl) (Opn.opens_int Try.underlying5 (by kernel_rfl))) (by rfl) (Opn.fields_cons (Opn.opens_slice 24 Try.underlying48 (by kernel_rfl) (by kernel_rfl) opens89) (by rfl) (Opn.fields_one opens25 (by rfl)))))))))
set_option maxRecDepth 100000 in
theorem lifted (os : Os) (started : os.Started) (H : Type) (enc : TypeId × Value → H) :
    ReturnsInHanded {} Try.checked os 4 .any (Rows.vfsSyncedSpec.pre6 enc Try.prog Try.f4 Rows.vfsSyncedRow.domain false) (Rows.vfsSyncedSpec.post enc Try.prog Try.f4 false true false false) := by
  refine returnsInHanded_of_change_sized (C := Try.checked) own started (by kernel_rfl) Try.func4
    (ChangeSpec.witness6 (enc := enc) (C := Try.checked) false ⟨#[], #[.int .i64 0, .slice none 0 0, .slice none 0 0, .agg #[.int .i64 0, .slice none 0 0]], []⟩ 8 (by kernel_rfl) (by kernel_rfl) (by kernel_rfl) (by kernel_rfl)) ?_
  intro W base args ds gs before hval0 hW hcnd hsz0 _
  have hsz : (DataW.weightsEach Try.prog (Try.f4.params.toList ++ Rows.vfsSyncedSpec.plain.varTypes Try.prog) (ds ++ gs)).all (· ≤ reachBytes) = true := hsz0
  have hval : ∀ (j : Nat) t v, Try.f4.params[j]? = some t → args[j]? = some v → Value.okWide Try.prog W .any base t v := hval0
  have hW' := hW
  obtain ⟨p, q, hA0, hV, rfl, hfz, hnd⟩ := hW
  have hA : DataW.TrodAll enc Try.prog W 0 (fun _ => true) true Try.f4.params.toList args.toList ds p := hA0
  rw [Try.params4] at hA hval hsz
  obtain ⟨v0, vs0, d0, ds0, p0, q0, hargs, rfl, rfl, h0, r0⟩ := trodAll_cons hA
  obtain ⟨v1, vs1, d1, ds1, p1, q1, rfl, rfl, rfl, h1, r1⟩ := trodAll_cons r0
  obtain ⟨v2, vs2, d2, ds2, p2, q2, rfl, rfl, rfl, h2, r2⟩ := trodAll_cons r1
  obtain ⟨v3, vs3, d3, ds3, p3, q3, rfl, rfl, rfl, h3, r3⟩ := trodAll_cons r2
  obtain ⟨rfl, rfl, rfl⟩ := trodAll_nil r3
  obtain rfl : args = #[v0, v1, v2, v3] := by cases args; simp_all
  obtain ⟨rfl, rfl⟩ := trodVars_none hV
  have k0 := h0
  have lt0 : ∀ x ∈ p0, x.block < W.heap.size := by obtain ⟨m, hm⟩ := k0; exact DataW.trod_lt m _ _ _ hm
  obtain ⟨y0, K0, O0, B0⟩ := Opn.Opens.arg (Opn.opens_int Try.underlying3 (by kernel_rfl)) h0
  have o0 := O0 (Opn.light_of hsz 0 3 d0 rfl rfl)
  obtain ⟨a0, rfl, hd0, _, _⟩ := open_int Try.underlying3 (hval 0 3 v0 rfl rfl) k0
  have e0 : [_] = [_] := K0
  simp [Value.cells] at e0
  subst e0
  have k1 := h1
  have lt1 : ∀ x ∈ p1, x.block < W.heap.size := by obtain ⟨m, hm⟩ := k1; exact DataW.trod_lt m _ _ _ hm
  obtain ⟨y1, K1, O1, B1⟩ := Opn.Opens.arg (Opn.opens_slice 136 Try.underlying44 (by kernel_rfl) (by kernel_rfl) opens50) h1
  have o1 := O1 (Opn.light_of hsz 1 44 d1 rfl rfl)
  obtain ⟨a1, len1, cap1, rfl⟩ := okWide_slice Try.underlying44 (hval 1 44 v1 rfl rfl)
  obtain ⟨A1, C1, e1, L1, K1⟩ := K1
  simp [Value.cells] at e1
  obtain ⟨rfl, rfl, rfl⟩ := e1
  have k2 := h2
  have lt2 : ∀ x ∈ p2, x.block < W.heap.size := by obtain ⟨m, hm⟩ := k2; exact DataW.trod_lt m _ _ _ hm
  obtain ⟨y2, K2, O2, B2⟩ := Opn.Opens.arg (Opn.opens_slice 136 Try.underlying44 (by kernel_rfl) (by kernel_rfl) opens50) h2
  have o2 := O2 (Opn.light_of hsz 2 44 d2 rfl rfl)
  obtain ⟨a2, len2, cap2, rfl⟩ := okWide_slice Try.underlying44 (hval 2 44 v2 rfl rfl)
  obtain ⟨A2, C2, e2, L2, K2⟩ := K2
  simp [Value.cells] at e2
  obtain ⟨rfl, rfl, rfl⟩ := e2
  have k3 := h3
  have lt3 : ∀ x ∈ p3, x.block < W.heap.size := by obtain ⟨m, hm⟩ := k3; exact DataW.trod_lt m _ _ _ hm
  obtain ⟨y3, K3, O3, B3⟩ := Opn.Opens.arg opens25 h3
  have o3 := O3 (Opn.light_of hsz 3 25 d3 rfl rfl)
  obtain ⟨cs3, rfl, hn3⟩ := okWide_struct Try.underlying25 (hval 3 25 v3 rfl rfl)
  clear hA0 hval0 hsz0 hsz
  refine (Vf.synced_walk a0 a1 cap1 y1 a2 cap2 y2 cs3 y3 W o0 K1 L1 o1 K2 L2 o2 K3 o3).mono fun e W' ⟨he, bel⟩ => ?_
  subst he
  exact ⟨_, rfl, _, _, _, [], _, [], hW', trodAll_mk1 (shut_bool Try.underlying4 _), (trodAll_cons_mk (Below.trod laidOut (by kernel_rfl) (of_decide_eq_true (by kernel_rfl)) k0 bel lt0) (trodAll_cons_mk (Below.trod laidOut (by kernel_rfl) (of_decide_eq_true (by kernel_rfl)) k1 bel lt1) (trodAll_cons_mk (Below.trod laidOut (by kernel_rfl) (of_decide_eq_true (by kernel_rfl)) k2 bel lt2) (trodAll_cons_mk (Below.trod laidOut (by kernel_rfl) (of_decide_eq_true (by kernel_rfl)) k3 bel lt3) trodAll_mk0)))), rfl, bel.frame _, fun h => by cases h⟩
theorem over : Rows.vfsSyncedRow.holds Try.pinned (OpenSpec.ofChange Rows.vfsSyncedSpec) :=
  OpenClaim.holds_of_wide 4 Try.f4 rfl rfl rfl rfl rfl rfl rfl ⟨rfl, rfl, rfl, rfl, rfl⟩ rfl rfl rfl rfl rfl (by kernel_rfl) Try.func4 (by kernel_rfl)
    (of_decide_eq_true (by kernel_rfl)) (by unfold Func.isWrapper; first | (rw [if_pos (by decide +kernel)]; kernel_rfl) | (rw [if_neg (by decide +kernel)]; exact ⟨rfl, rfl⟩))
    (fun os started H enc _ => lifted os started H enc)
theorem proved : Rows.VfsSyncedSaid := over
#print axioms proved
end Go.Proofs.Ytamhecmopnekjaa.vfsSynced
namespace Go.Proofs.Ytamhecmopnekjaa
/-- The row, under a short name, for the claim. -/
theorem vfsSynced_holds : Rows.VfsSyncedSaid := vfsSynced.proved
end Go.Proofs.Ytamhecmopnekjaa
