/- The row of HttpPipes: the law answers true for every input of bulk at most 1048576, and the input reads as it did. Written by a program of this session over its walk. -/
import Derived.Test.YtckbcnmcnhahhaaDoorRows
import Derived.Test.YtckbcnmcnhahhaaDoorOpen
import Derived.Test.YtckbcnmcnhahhaaDoorRowU
import Derived.Test.YtckbcnmcnhahhaaDoorRowS
import Derived.Test.YtckbcnmcnhahhaaDoorWHttpPipes
import Derived.Test.YtckbcnmcnhahhaaDoorHpE
import Derived.Test.YtckbcnmcnhahhaaDoorCards
import Derived.Test.YtckbcnmcnhahhaaDoorTie
import Derived.LaidMore
import Derived.Lay
import Derived.SevenTiedAt
import Derived.Stop.Joined
import Derived.Handed
import Derived.WalkKit
import Derived.ProofKit
import Derived.Lib.SmallJoins
import Derived.Carry
import Derived.OpenShut
import Derived.ShutString
import Derived.ChangeOld
import Derived.Below
import Derived.SizedLaws
import Derived.JoinedCond
import Derived.Deep.CondSized
namespace Go.Proofs.YtckbcnmcnhahhaaDoor.httpPipesUpto
open Go.ChangeShapes Go.WideShapes Go.ChangeAt Go.RowKit Go.Joins Go.Deep Go.Proofs.YtckbcnmcnhahhaaDoorW.PrintWords
open Go.Proofs.YtckbcnmcnhahhaaDoor.PI
open Go.ChangeMaps (open_string shut_string)
set_option linter.unusedVariables false
set_option linter.unusedSimpArgs false
theorem own : ownKnob Tryd.prog.godebug = none := by kernel_rfl
theorem laidOut : laidOutB Tryd.prog = true := by kernel_rfl
def ok50 (x : S50) : Prop := (x.f0.size ≤ 140737488351232) ∧ (x.f1.size ≤ 140737488351232)
def wt50 (x : S50) : Nat := ((x.f0.size + 1) + ((x.f1.size + 1))) + 1
set_option maxRecDepth 100000 in
theorem opens50 : Opn.Opens k50 50 ok50 wt50 := Opn.opens_struct (fun x : S50 => (x.f0, x.f1)) (fun p => ⟨p.1, p.2⟩) (fun _ => rfl) Tryd.underlying50 (by kernel_rfl) (Opn.fields_cons (Opn.opens_string Tryd.underlying9 (by kernel_rfl)) (by rfl) (Opn.fields_one (Opn.opens_string Tryd.underlying9 (by kernel_rfl)) (by rfl)))
def ok25 (x : S25) : Prop := (x.f0.size ≤ 140737488351232) ∧ (x.f1.size ≤ 140737488351232) ∧ (x.f2.length * 32 ≤ 140737488351232 ∧ ∀ e_xf2 ∈ x.f2, ok50 e_xf2) ∧ (x.f3.size ≤ 140737488351232) ∧ (True)
def wt25 (x : S25) : Nat := ((x.f0.size + 1) + ((x.f1.size + 1) + ((Opn.lwt (fun x => (wt50 x)) x.f2 + 1) + ((x.f3.size + 1) + (1))))) + 1
set_option maxRecDepth 100000 in
theorem opens25 : Opn.Opens k25 25 ok25 wt25 := Opn.opens_struct (fun x : S25 => (x.f0, x.f1, x.f2, x.f3, x.f4)) (fun p => ⟨p.1, p.2.1, p.2.2.1, p.2.2.2.1, p.2.2.2.2⟩) (fun _ => rfl) Tryd.underlying25 (by kernel_rfl) (Opn.fields_cons (Opn.opens_string Tryd.underlying9 (by kernel_rfl)) (by rfl) (Opn.fields_cons (Opn.opens_string Tryd.underlying9 (by kernel_rfl)) (by rfl) (Opn.fields_cons (Opn.opens_slice 32 Tryd.underlying23 (by kernel_rfl) (by kernel_rfl) opens50) (by rfl) (Opn.fields_cons (Opn.opens_string Tryd.underlying9 (by kernel_rfl)) (by rfl) (Opn.fields_one (Opn.opens_bool Tryd.underlying4 (by kernel_rfl)) (by rfl))))))
set_option maxRecDepth 100000 in
theorem lifted (os : Os) (started : os.Started) (H : Type) (enc : TypeId × Value → H) (F : Stop.Interp) :
    ReturnsInHanded {} Tryd.checked os 7 .any (fun w args => ((Rows.OpenSpec.upto Rows.httpPipesSpec).pre enc Tryd.prog Tryd.f7 Rows.httpPipesUptoRow.domain false w args ∧ laidMetH Tryd.prog Rows.httpPipesUptoRow.laid w) ∧ sizedMet enc Tryd.prog Tryd.f7 (Rows.OpenSpec.upto Rows.httpPipesSpec) false w args) (((Rows.OpenSpec.upto Rows.httpPipesSpec).at F).post enc Tryd.prog Tryd.f7 false true false false) := by
  refine RowU.handed_of_cond_and_s (C := Tryd.checked) (s := (Rows.OpenSpec.upto Rows.httpPipesSpec)) (k := Rows.uptoSmall) rfl (X := fun w _ => laidMetH Tryd.prog Rows.httpPipesUptoRow.laid w) (fun _ _ _ hh h => h.of_heap hh) own started (by kernel_rfl) Tryd.func7
    (RowU.witness_cond_shaped (enc := enc) (C := Tryd.checked) (os := os) (s := (Rows.OpenSpec.upto Rows.httpPipesSpec)) (k := Rows.uptoSmall) rfl (X := fun w _ => laidMetH Tryd.prog Rows.httpPipesUptoRow.laid w) false (World.laidAll Tryd.prog os Rows.httpPipesUptoRow.laid) #[.slice none 0 0, .string ByteArray.empty] 8 (World.laidAll_os _ _ _)
      (World.shaped_of_ZipB (by kernel_rfl) (by kernel_rfl)) (by kernel_rfl) (x := ([.nil, .lit (.string [])], [], [])) (by kernel_rfl) rfl (by kernel_rfl) (by kernel_rfl)
      (by rw [MakeChecks.laidMetH_plain _ _ _ (by kernel_rfl)]; exact laidMet_laidAll _ (by kernel_rfl) (by kernel_rfl))) ?_
  intro W base args ds gs before hsh hval0 hW hcnd hk hsz0 _ _
  have hsz : (DataW.weightsEach Tryd.prog (Tryd.f7.params.toList ++ Rows.httpPipesSpec.plain.varTypes Tryd.prog) (ds ++ gs)).all (· ≤ reachBytes) = true := hsz0
  have hval : ∀ (j : Nat) t v, Tryd.f7.params[j]? = some t → args[j]? = some v → Value.okWide Tryd.prog W .any base t v := hval0
  have hW' := hW
  obtain ⟨p, q, hA0, hV, rfl, hfz, hnd⟩ := hW
  have hA : DataW.TrodAll enc Tryd.prog W 0 (fun _ => true) true Tryd.f7.params.toList args.toList ds p := hA0
  rw [Tryd.params7] at hA hval hsz
  obtain ⟨v0, vs0, d0, ds0, p0, q0, hargs, rfl, rfl, h0, r0⟩ := trodAll_cons hA
  obtain ⟨v1, vs1, d1, ds1, p1, q1, rfl, rfl, rfl, h1, r1⟩ := trodAll_cons r0
  obtain ⟨rfl, rfl, rfl⟩ := trodAll_nil r1
  obtain rfl : args = #[v0, v1] := by cases args; simp_all
  obtain ⟨rfl, rfl⟩ := trodVars_none hV
  have k0 := h0
  have lt0 : ∀ x ∈ p0, x.block < W.heap.size := by obtain ⟨m, hm⟩ := k0; exact DataW.trod_lt m _ _ _ hm
  obtain ⟨y0, K0, O0, B0⟩ := Opn.Opens.arg (Opn.opens_slice 80 Tryd.underlying42 (by kernel_rfl) (by kernel_rfl) opens25) h0
  have o0 := O0 (Opn.light_of hsz 0 42 d0 rfl rfl)
  obtain ⟨a0, len0, cap0, rfl⟩ := okWide_slice Tryd.underlying42 (hval 0 42 v0 rfl rfl)
  obtain ⟨A0, C0, e0, L0, K0⟩ := K0
  simp [Value.cells] at e0
  obtain ⟨rfl, rfl, rfl⟩ := e0
  have k1 := h1
  have lt1 : ∀ x ∈ p1, x.block < W.heap.size := by obtain ⟨m, hm⟩ := k1; exact DataW.trod_lt m _ _ _ hm
  obtain ⟨y1, K1, O1, B1⟩ := Opn.Opens.arg (Opn.opens_string Tryd.underlying9 (by kernel_rfl)) h1
  have o1 := O1 (Opn.light_of hsz 1 9 d1 rfl rfl)
  obtain ⟨a1, rfl, hd1, _, _⟩ := open_string Tryd.underlying9 (hval 1 9 v1 rfl rfl) k1
  have e1 : [_] = [_] := K1
  simp [Value.cells] at e1
  subst e1
  have hb := of_decide_eq_true hk
  simp only [Rows.uptoBulkAll, List.cons_append, List.nil_append, List.append_nil] at hb
  have hbulk : (Opn.lwt (fun x => (wt25 x)) y0 + 1) + (a1.size + 1) ≤ 1048576 := by
    have z0 : (Opn.lwt (fun x => (wt25 x)) y0 + 1) ≤ Rows.uptoBulk d0 := by exact B0
    have z1 : (a1.size + 1) ≤ Rows.uptoBulk d1 := by first | exact B1 | (subst hd1; exact B1)
    omega
  clear hA0 hval0 hsz0 hsz
  refine (PI.pipes_walk a0 cap0 y0 a1 W K0 L0 o0 o1 hbulk (mx_shaped hsh)).mono fun e W' ⟨he, bel⟩ => ?_
  subst he
  exact ⟨_, rfl, _, _, _, [], _, [], hW', trodAll_mk1 (shut_bool Tryd.underlying4 _), (trodAll_cons_mk (Below.trod laidOut (by kernel_rfl) (of_decide_eq_true (by kernel_rfl)) k0 bel lt0) (trodAll_cons_mk (Below.trod laidOut (by kernel_rfl) (of_decide_eq_true (by kernel_rfl)) k1 bel lt1) trodAll_mk0)), rfl, bel.frame _, fun h => by cases h⟩
theorem over : Rows.httpPipesUptoRow.holds Tryd.pinned (Rows.OpenSpec.upto Rows.httpPipesSpec) :=
  OpenClaim.holds_of_cond 7 Tryd.f7 rfl rfl rfl rfl rfl rfl rfl ⟨rfl, rfl, rfl, rfl, rfl⟩ rfl rfl rfl rfl rfl (by kernel_rfl) Tryd.func7 (by kernel_rfl)
    (of_decide_eq_true (by kernel_rfl)) (by unfold Func.isWrapper; first | (rw [if_pos (by decide +kernel)]; kernel_rfl) | (rw [if_neg (by decide +kernel)]; exact ⟨rfl, rfl⟩))
    (fun os started H enc _ F => lifted os started H enc F)
theorem proved : Rows.HttpPipesUptoCardSaid :=
  Claim7.holds_tied_plain_at .later [] [.data, .pinned] true (true, "108fce350072dda7d72e7e6c6d7630eb2919568be64510e76b5dd3b61f767554") false
    over (fun _ h => by cases h) (by kernel_rfl) (fun _ h => by cases h) httpPipesUpto_row_tie rfl ⟨rfl, rfl⟩ (by kernel_rfl) rfl
    (fun f fn hf hfn => by
      obtain rfl : f = 7 := Option.some.inj ((show Tryd.prog.funcNamed "atrium/atriumlaw17.HttpPipes" = some 7 by kernel_rfl).symm.trans hf) |>.symm
      obtain rfl : fn = Tryd.f7 := (Option.some.inj (Tryd.func7.symm.trans hfn)).symm
      exact ⟨by kernel_rfl, fun j t ht => by
        rw [Tryd.params7] at ht
        rcases j with _ | j
        · have h3 : t = 42 := by simpa using ht.symm
          subst h3
          exact (show Tryd.prog.wantsStandIn 42 = false by kernel_rfl)
        rcases j with _ | j
        · have h3 : t = 9 := by simpa using ht.symm
          subst h3
          exact (show Tryd.prog.wantsStandIn 9 = false by kernel_rfl)
        · simp at ht⟩)
    (by kernel_rfl)
#print axioms proved
end Go.Proofs.YtckbcnmcnhahhaaDoor.httpPipesUpto
namespace Go.Proofs.YtckbcnmcnhahhaaDoor
/-- The card, under a short name, for the claim. -/
theorem httpPipesUptoCard_holds : Rows.HttpPipesUptoCardSaid := httpPipesUpto.proved
end Go.Proofs.YtckbcnmcnhahhaaDoor
