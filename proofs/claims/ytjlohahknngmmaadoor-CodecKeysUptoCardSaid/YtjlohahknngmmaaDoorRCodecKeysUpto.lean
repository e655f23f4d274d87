/- The row of CodecKeys: the law answers true for every input of bulk at most 1048576, and the input reads as it did. Written by a program of this session over its walk. -/
import Derived.Test.YtjlohahknngmmaaDoorRows
import Derived.Test.YtjlohahknngmmaaDoorOpen
import Derived.Test.YtjlohahknngmmaaDoorRowU
import Derived.Test.YtjlohahknngmmaaDoorKyW
import Derived.Test.YtjlohahknngmmaaDoorCards
import Derived.Test.YtjlohahknngmmaaDoorTie
import Derived.LaidMore
import Derived.Lay
import Derived.SevenTiedAt
import Derived.Stop.Joined
import Derived.Handed
import Derived.WalkKit
import Derived.ProofKit
import Derived.Lib.SmallJoins
import Derived.Carry
import Derived.OpenShut
import Derived.ShutString
import Derived.ChangeOld
import Derived.Below
import Derived.SizedLaws
import Derived.JoinedCond
import Derived.Deep.CondSized
namespace Go.Proofs.YtjlohahknngmmaaDoor.codecKeysUpto
open Go.ChangeShapes Go.WideShapes Go.ChangeAt Go.RowKit Go.Joins Go.Deep Go.Proofs.YtjlohahknngmmaaDoorW.PrintWords
open Go.Proofs.YtjlohahknngmmaaDoor.PK
open Go.ChangeMaps (open_string shut_string)
set_option linter.unusedVariables false
set_option linter.unusedSimpArgs false
theorem own : ownKnob Tryd.prog.godebug = none := by kernel_rfl
theorem laidOut : laidOutB Tryd.prog = true := by kernel_rfl
def ok51 (x : S51) : Prop := (x.f0.size ≤ 140737488351232) ∧ ((Lit.int .u64 x.f1).wf = true) ∧ (True)
def wt51 (x : S51) : Nat := ((x.f0.size + 1) + (1 + (1))) + 1
set_option maxRecDepth 100000 in
theorem opens51 : Opn.Opens k51 51 ok51 wt51 := Opn.opens_struct (fun x : S51 => (x.f0, x.f1, x.f2)) (fun p => ⟨p.1, p.2.1, p.2.2⟩) (fun _ => rfl) Tryd.underlying51 (by kernel_rfl) (Opn.fields_cons (Opn.opens_string Tryd.underlying9 (by kernel_rfl)) (by rfl) (Opn.fields_cons (Opn.opens_int Tryd.underlying38 (by kernel_rfl)) (by rfl) (Opn.fields_one (Opn.opens_bool Tryd.underlying4 (by kernel_rfl)) (by rfl))))
set_option maxRecDepth 100000 in
theorem lifted (os : Os) (started : os.Started) (H : Type) (enc : TypeId × Value → H) (F : Stop.Interp) :
    ReturnsInHanded {} Tryd.checked os 5 .any (fun w args => ((Rows.OpenSpec.upto Rows.codecKeysSpec).pre enc Tryd.prog Tryd.f5 Rows.codecKeysUptoRow.domain false w args ∧ laidMetH Tryd.prog Rows.codecKeysUptoRow.laid w) ∧ sizedMet enc Tryd.prog Tryd.f5 (Rows.OpenSpec.upto Rows.codecKeysSpec) false w args) (((Rows.OpenSpec.upto Rows.codecKeysSpec).at F).post enc Tryd.prog Tryd.f5 false true false false) := by
  refine RowU.handed_of_cond_and (C := Tryd.checked) (s := (Rows.OpenSpec.upto Rows.codecKeysSpec)) (k := Rows.uptoSmall) rfl (X := fun w _ => laidMetH Tryd.prog Rows.codecKeysUptoRow.laid w) (fun _ _ _ hh h => h.of_heap hh) own started (by kernel_rfl) Tryd.func5
    (RowU.witness_cond_shaped (enc := enc) (C := Tryd.checked) (os := os) (s := (Rows.OpenSpec.upto Rows.codecKeysSpec)) (k := Rows.uptoSmall) rfl (X := fun w _ => laidMetH Tryd.prog Rows.codecKeysUptoRow.laid w) false (World.laidAll Tryd.prog os Rows.codecKeysUptoRow.laid) #[.slice none 0 0] 8 (World.laidAll_os _ _ _)
      (World.shaped_of_ZipB (by kernel_rfl) (by kernel_rfl)) (by kernel_rfl) (x := ([.nil], [], [])) (by kernel_rfl) rfl (by kernel_rfl) (by kernel_rfl)
      (by rw [MakeChecks.laidMetH_plain _ _ _ (by kernel_rfl)]; exact laidMet_laidAll _ (by kernel_rfl) (by kernel_rfl))) ?_
  intro W base args ds gs before hval0 hW hcnd hk hsz0 _ _
  have hsz : (DataW.weightsEach Tryd.prog (Tryd.f5.params.toList ++ Rows.codecKeysSpec.plain.varTypes Tryd.prog) (ds ++ gs)).all (· ≤ reachBytes) = true := hsz0
  have hval : ∀ (j : Nat) t v, Tryd.f5.params[j]? = some t → args[j]? = some v → Value.okWide Tryd.prog W .any base t v := hval0
  have hW' := hW
  obtain ⟨p, q, hA0, hV, rfl, hfz, hnd⟩ := hW
  have hA : DataW.TrodAll enc Tryd.prog W 0 (fun _ => true) true Tryd.f5.params.toList args.toList ds p := hA0
  rw [Tryd.params5] at hA hval hsz
  obtain ⟨v0, vs0, d0, ds0, p0, q0, hargs, rfl, rfl, h0, r0⟩ := trodAll_cons hA
  obtain ⟨rfl, rfl, rfl⟩ := trodAll_nil r0
  obtain rfl : args = #[v0] := by cases args; simp_all
  obtain ⟨rfl, rfl⟩ := trodVars_none hV
  have k0 := h0
  have lt0 : ∀ x ∈ p0, x.block < W.heap.size := by obtain ⟨m, hm⟩ := k0; exact DataW.trod_lt m _ _ _ hm
  obtain ⟨y0, K0, O0, B0⟩ := Opn.Opens.arg (Opn.opens_slice 32 Tryd.underlying22 (by kernel_rfl) (by kernel_rfl) opens51) h0
  have o0 := O0 (Opn.light_of hsz 0 22 d0 rfl rfl)
  obtain ⟨a0, len0, cap0, rfl⟩ := okWide_slice Tryd.underlying22 (hval 0 22 v0 rfl rfl)
  obtain ⟨A0, C0, e0, L0, K0⟩ := K0
  simp [Value.cells] at e0
  obtain ⟨rfl, rfl, rfl⟩ := e0
  have hb := of_decide_eq_true hk
  simp only [Rows.uptoBulkAll, List.cons_append, List.nil_append, List.append_nil] at hb
  have hbulk : (Opn.lwt (fun x => (wt51 x)) y0 + 1) ≤ 1048576 := by
    have z0 : (Opn.lwt (fun x => (wt51 x)) y0 + 1) ≤ Rows.uptoBulk d0 := by exact B0
    omega
  clear hA0 hval0 hsz0 hsz
  refine (Ky.keys_walk a0 cap0 y0 W K0 L0 o0 hbulk).mono fun e W' ⟨he, bel⟩ => ?_
  subst he
  exact ⟨_, rfl, _, _, _, [], _, [], hW', trodAll_mk1 (shut_bool Tryd.underlying4 _), (trodAll_cons_mk (Below.trod laidOut (by kernel_rfl) (of_decide_eq_true (by kernel_rfl)) k0 bel lt0) trodAll_mk0), rfl, bel.frame _, fun h => by cases h⟩
theorem over : Rows.codecKeysUptoRow.holds Tryd.pinned (Rows.OpenSpec.upto Rows.codecKeysSpec) :=
  OpenClaim.holds_of_cond 5 Tryd.f5 rfl rfl rfl rfl rfl rfl rfl ⟨rfl, rfl, rfl, rfl, rfl⟩ rfl rfl rfl rfl rfl (by kernel_rfl) Tryd.func5 (by kernel_rfl)
    (of_decide_eq_true (by kernel_rfl)) (by unfold Func.isWrapper; first | (rw [if_pos (by decide +kernel)]; kernel_rfl) | (rw [if_neg (by decide +kernel)]; exact ⟨rfl, rfl⟩))
    (fun os started H enc _ F => lifted os started H enc F)
theorem proved : Rows.CodecKeysUptoCardSaid :=
  Claim7.holds_tied_plain_at .later [] [.data, .pinned] true (true, "3a13550bf8bce0bf8845582114983f33ab733c79af1c7a168fc84309ed6ded9d") false
    over (fun _ h => by cases h) (by kernel_rfl) (fun _ h => by cases h) codecKeysUpto_row_tie rfl ⟨rfl, rfl⟩ (by kernel_rfl) rfl
    (fun f fn hf hfn => by
      obtain rfl : f = 5 := Option.some.inj ((show Tryd.prog.funcNamed "atrium/atriumlaw02.CodecKeys" = some 5 by kernel_rfl).symm.trans hf) |>.symm
      obtain rfl : fn = Tryd.f5 := (Option.some.inj (Tryd.func5.symm.trans hfn)).symm
      exact ⟨by kernel_rfl, fun j t ht => by
        rw [Tryd.params5] at ht
        rcases j with _ | j
        · have h3 : t = 22 := by simpa using ht.symm
          subst h3
          exact (show Tryd.prog.wantsStandIn 22 = false by kernel_rfl)
        · simp at ht⟩)
    (by kernel_rfl)
#print axioms proved
end Go.Proofs.YtjlohahknngmmaaDoor.codecKeysUpto
namespace Go.Proofs.YtjlohahknngmmaaDoor
/-- The card, under a short name, for the claim. -/
theorem codecKeysUptoCard_holds : Rows.CodecKeysUptoCardSaid := codecKeysUpto.proved
end Go.Proofs.YtjlohahknngmmaaDoor
