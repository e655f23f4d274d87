/- The row of CodecWrites: the law answers true for every input of bulk at most 1048576, and the input reads as it did. Written by a program of this session over its walk. -/
import Derived.Test.YtjlohahknngmmaaRows
import Derived.Test.YtjlohahknngmmaaOpen
import Derived.Test.YtjlohahknngmmaaWCodecWrites
import Derived.WalkKit
import Derived.ProofKit
import Derived.Lib.SmallJoins
import Derived.Carry
import Derived.OpenShut
import Derived.ShutString
import Derived.ChangeOld
import Derived.Below
import Derived.SizedLaws
import Derived.JoinedCond
import Derived.Deep.CondSized
namespace Go.Proofs.Ytjlohahknngmmaa.codecWritesUpto
open Go.ChangeShapes Go.WideShapes Go.ChangeAt Go.RowKit Go.Joins Go.Deep Go.Proofs.YtjlohahknngmmaaW.PrintWords
open Go.Proofs.Ytjlohahknngmmaa.PE
open Go.ChangeMaps (open_string shut_string)
set_option linter.unusedVariables false
set_option linter.unusedSimpArgs false
theorem own : ownKnob Try.prog.godebug = none := by kernel_rfl
theorem laidOut : laidOutB Try.prog = true := by kernel_rfl
def ok41 (x : S41) : Prop := ((Lit.int .i64 x.f0).wf = true) ∧ ((Lit.int .u64 x.f1).wf = true) ∧ (x.f2.size ≤ 140737488351232)
def wt41 (x : S41) : Nat := (1 + (1 + ((x.f2.size + 1)))) + 1
theorem opens41 : Opn.Opens k41 41 ok41 wt41 := Opn.opens_struct (fun x : S41 => (x.f0, x.f1, x.f2)) (fun p => ⟨p.1, p.2.1, p.2.2⟩) (fun _ => rfl) Try.underlying41 (by kernel_rfl) (Opn.fields_cons (Opn.opens_int Try.underlying3 (by kernel_rfl)) (by rfl) (Opn.fields_cons (Opn.opens_int Try.underlying22 (by kernel_rfl)) (by rfl) (Opn.fields_one (Opn.opens_string Try.underlying9 (by kernel_rfl)) (by rfl))))
set_option maxRecDepth 100000 in
theorem lifted (os : Os) (started : os.Started) (H : Type) (enc : TypeId × Value → H) (F : Stop.Interp) :
    ReturnsInHanded {} Try.checked os 5 .any ((Rows.OpenSpec.upto Rows.codecWritesSpec).pre6 enc Try.prog Try.f5 Rows.codecWritesUptoRow.domain false) (((Rows.OpenSpec.upto Rows.codecWritesSpec).at F).post enc Try.prog Try.f5 false true false false) := by
  refine returnsInHanded_of_cond_sized (C := Try.checked) (s := (Rows.OpenSpec.upto Rows.codecWritesSpec)) (k := Rows.uptoSmall) rfl own started (by kernel_rfl) Try.func5
    (OpenSpec.witness (enc := enc) (C := Try.checked) (s := (Rows.OpenSpec.upto Rows.codecWritesSpec)) (k := Rows.uptoSmall) rfl false ⟨#[], #[.int .i64 0, .slice none 0 0], []⟩ 8 (by kernel_rfl) (by kernel_rfl) (by kernel_rfl)
      (x := ([.lit (.int .i64 0), .nil], [], [])) (by kernel_rfl) rfl (by kernel_rfl)) ?_
  intro W base args ds gs before hval0 hW hcnd hk hsz0 _
  have hsz : (DataW.weightsEach Try.prog (Try.f5.params.toList ++ Rows.codecWritesSpec.plain.varTypes Try.prog) (ds ++ gs)).all (· ≤ reachBytes) = true := hsz0
  have hval : ∀ (j : Nat) t v, Try.f5.params[j]? = some t → args[j]? = some v → Value.okWide Try.prog W .any base t v := hval0
  have hW' := hW
  obtain ⟨p, q, hA0, hV, rfl, hfz, hnd⟩ := hW
  have hA : DataW.TrodAll enc Try.prog W 0 (fun _ => true) true Try.f5.params.toList args.toList ds p := hA0
  rw [Try.params5] at hA hval hsz
  obtain ⟨v0, vs0, d0, ds0, p0, q0, hargs, rfl, rfl, h0, r0⟩ := trodAll_cons hA
  obtain ⟨v1, vs1, d1, ds1, p1, q1, rfl, rfl, rfl, h1, r1⟩ := trodAll_cons r0
  obtain ⟨rfl, rfl, rfl⟩ := trodAll_nil r1
  obtain rfl : args = #[v0, v1] := by cases args; simp_all
  obtain ⟨rfl, rfl⟩ := trodVars_none hV
  have k0 := h0
  have lt0 : ∀ x ∈ p0, x.block < W.heap.size := by obtain ⟨m, hm⟩ := k0; exact DataW.trod_lt m _ _ _ hm
  obtain ⟨y0, K0, O0, B0⟩ := Opn.Opens.arg (Opn.opens_int Try.underlying3 (by kernel_rfl)) h0
  have o0 := O0 (Opn.light_of hsz 0 3 d0 rfl rfl)
  obtain ⟨a0, rfl, hd0, _, _⟩ := open_int Try.underlying3 (hval 0 3 v0 rfl rfl) k0
  have e0 : [_] = [_] := K0
  simp [Value.cells] at e0
  subst e0
  have k1 := h1
  have lt1 : ∀ x ∈ p1, x.block < W.heap.size := by obtain ⟨m, hm⟩ := k1; exact DataW.trod_lt m _ _ _ hm
  obtain ⟨y1, K1, O1, B1⟩ := Opn.Opens.arg (Opn.opens_slice 32 Try.underlying36 (by kernel_rfl) (by kernel_rfl) opens41) h1
  have o1 := O1 (Opn.light_of hsz 1 36 d1 rfl rfl)
  obtain ⟨a1, len1, cap1, rfl⟩ := okWide_slice Try.underlying36 (hval 1 36 v1 rfl rfl)
  obtain ⟨A1, C1, e1, L1, K1⟩ := K1
  simp [Value.cells] at e1
  obtain ⟨rfl, rfl, rfl⟩ := e1
  have hb := of_decide_eq_true hk
  simp only [Rows.uptoBulkAll, List.cons_append, List.nil_append, List.append_nil] at hb
  have hbulk : 1 + (Opn.lwt (fun x => (wt41 x)) y1 + 1) ≤ 1048576 := by
    have z0 : 1 ≤ Rows.uptoBulk d0 := by first | exact B0 | (subst hd0; exact B0)
    have z1 : (Opn.lwt (fun x => (wt41 x)) y1 + 1) ≤ Rows.uptoBulk d1 := by exact B1
    omega
  clear hA0 hval0 hsz0 hsz
  refine (writes_walk a0 a1 cap1 y1 W o0 K1 L1 o1 hbulk).mono fun e W' ⟨he, bel⟩ => ?_
  subst he
  exact ⟨_, rfl, _, _, _, [], _, [], hW', trodAll_mk1 (shut_bool Try.underlying4 _), (trodAll_cons_mk (Below.trod laidOut (by kernel_rfl) (of_decide_eq_true (by kernel_rfl)) k0 bel lt0) (trodAll_cons_mk (Below.trod laidOut (by kernel_rfl) (of_decide_eq_true (by kernel_rfl)) k1 bel lt1) trodAll_mk0)), rfl, bel.frame _, fun h => by cases h⟩
theorem over : Rows.codecWritesUptoRow.holds Try.pinned (Rows.OpenSpec.upto Rows.codecWritesSpec) :=
  OpenClaim.holds_of_cond 5 Try.f5 rfl rfl rfl rfl rfl rfl rfl ⟨rfl, rfl, rfl, rfl, rfl⟩ rfl rfl rfl rfl rfl (by kernel_rfl) Try.func5 (by kernel_rfl)
    (of_decide_eq_true (by kernel_rfl)) (by unfold Func.isWrapper; first | (rw [if_pos (by decide +kernel)]; kernel_rfl) | (rw [if_neg (by decide +kernel)]; exact ⟨rfl, rfl⟩))
    (fun os started H enc _ F => lifted os started H enc F)
theorem proved : Rows.CodecWritesUptoSaid := over
#print axioms proved
end Go.Proofs.Ytjlohahknngmmaa.codecWritesUpto
namespace Go.Proofs.Ytjlohahknngmmaa
/-- The row, under a short name, for the claim. -/
theorem codecWritesUpto_holds : Rows.CodecWritesUptoSaid := codecWritesUpto.proved
end Go.Proofs.Ytjlohahknngmmaa
