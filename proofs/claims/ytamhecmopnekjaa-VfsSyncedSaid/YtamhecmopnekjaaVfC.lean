/- vfs: counted: a map literal that is filled in any order, then ranged over; then nth[op]++. Written by tools/vfc.py. -/
import Derived.Test.YtamhecmopnekjaaVfAA
import Derived.Maps.OwnOps
namespace Go.Proofs.Ytamhecmopnekjaa.Vf
open Go Go.RowKit Go.Maps Go.Proofs.Ytamhecmopnekjaa Go.Proofs.YtamhecmopnekjaaW.PrintWords Go.Proofs.Ytamhecmopnekjaa.Bag
set_option linter.unusedVariables false
set_option linter.unusedSimpArgs false

/-- The elements of counted's own map: pointers to the counters. -/
def rdO (g : Nat) : Value → Option (Dt × List MemPlace)
  | .pointer (some ⟨b, off, none⟩) => if b = g ∧ 6 ≤ off ∧ off ≤ 12 then some (.lit (.int .i64 (off : Int)), []) else none
  | _ => none
def mkO (g : Nat) (c : Fin 7) : Value := .pointer (some ⟨g, 6 + c.val, none⟩)
theorem rdO_mk (g : Nat) (c : Fin 7) : rdO g (mkO g c) = some (.lit (.int .i64 ((6 + c.val : Nat) : Int)), []) := by
  have := c.isLt
  show (if _ ∧ _ ∧ _ then _ else _) = _
  rw [if_pos ⟨rfl, by omega, by omega⟩]
theorem rdO_inv (g : Nat) (v : Value) (y : Dt × List MemPlace) (h : rdO g v = some y) : ∃ c, v = mkO g c := by
  unfold rdO at h
  split at h
  · rename_i b off
    split at h
    · rename_i hh
      obtain ⟨rfl, h1, h2⟩ := hh
      exact ⟨⟨off - 6, by omega⟩, by unfold mkO; rw [show 6 + (off - 6) = off by omega]⟩
    · cases h
  · cases h
/-- The world while the map is filled: the map (block H) has some entries. -/
structure Fill (w0 : World) (g : Nat) (S : St) (W : World) (Hb : Nat) (n : Nat) (w : World) : Prop where
  fb : FsB w0 g S w
  be : Below W.heap.size W w
  hb : W.heap.size ≤ Hb
  ow : ∃ D, w.ownsMap Try.prog 3 (rdO g) Hb n D
theorem wpOp_insert {P : Program} {ops : Array Oper} {Q : Exit → Act → World → Prop} {a : Act} {w : World} {I : World → Prop} (i : Nat) (o : Oper) (hi : ops[i]? = some o) (hg : o.guard = none) (hd : o.dst = none) (t : TypeId) (m x v : Operand) (hop : o.op = Op.insert t m x v)
    (h : ∃ w', (Instr.mapUpdate t (a.eval m) (a.eval x) (a.eval v)).run P w = .ok () w' ∧ I w') : wpOp P ops Q i (fun a' w' => a' = a ∧ I w') a w := by
  obtain ⟨w', hrun, hI⟩ := h
  unfold wpOp
  rw [hi]
  have hw : Region.wanted o (yielded ops a.tmps) = true := by unfold Region.wanted; rw [hg]
  show if Region.wanted o (yielded ops a.tmps) = true then _ else _
  rw [if_pos hw]
  left
  unfold Oper.wp
  simp [execOp, hop, hrun, Result.andThen]
  unfold Oper.upon
  simp [Act.put, hd]
  exact hI
def nums : List Nat := [4, 8, 12, 16, 20, 24, 28]
def base0 : Array Bool := #[true, true, true, true, false, true, true, true, false, true, true, true, false, true, true, true, false, true, true, true, false, true, true, true, false, true, true, true, false, false, false]
def fin0 : Array Bool := #[true, true, true, true, true, true, true, true, true, true, true, true, true, true, true, true, true, true, true, true, true, true, true, true, true, true, true, true, true, false, false]
theorem rep0 : Rep base0 base0 [] := ⟨rfl, by decide +kernel⟩
theorem repF : Rep base0 fin0 nums := ⟨rfl, by decide +kernel⟩
set_option maxHeartbeats 4000000 in
set_option maxRecDepth 100000 in
theorem counted_any (w0 : World) (g : Nat) (S : St) (op : Nat) (w : World) (h : FsB w0 g S w) (hop : 1 ≤ op ∧ op ≤ 7) :
    Calls Try.prog 53 #[.pointer (some ⟨g, 0, none⟩), .int .i64 (op : Int)] w fun e w' => e = .returned (.tuple #[]) ∧ ∃ o' nth', FsB w0 g { S with o := o', nth := nth' } w' ∧ But2 w w' g S.bn := by
  have hu := Try.underlying73
  have hu2 := Try.underlying65
  have hu3 := Try.underlying104
  have hmm := @run_makeMap Try.prog
  have HF := Aside0.mk h
  have Hop := Aside0.mk hop
  clear h hop
  go_enter Try.func53, Try.ntmps53
  go_upto_region 1 with fail
  refine wp_region_held_drew (S := fun _ => True) (by kernel_rfl) trivial (fun _ => ?_)
  change wpAnyH _ _ _ _ _ 31 #[false, false, false, false, false, false, false, false, false, false, false, false, false, false, false, false, false, false, false, false, false, false, false, false, false, false, false, false, false, false, false] _ _
  have HF1 := Aside0.mk HF.out.drew
  generalize hW : w.drew = W at *
  have HW := Aside0.mk hW
  clear hW
  refine wpAnyH_take (i := 1) (oi := ⟨some 11, Op.move (.tmp 4), 104, _, _, _⟩) (v := .pointer (some ⟨g, 6, none⟩)) rfl (by kernel_rfl) (by kernel_rfl) (by kernel_rfl) (fun _ _ _ h => h) (Or.inl ⟨by rfl, fun w _ => by first | (go_simp; done) | (go_simp; with_reducible rfl)⟩) trivial ?_
  simp only [Act.put, List.setIfInBounds_toArray, List.set_cons_zero, List.set_cons_succ]
  refine wpAnyH_take (i := 2) (oi := ⟨some 12, Op.nilCheck (.tmp 11), 0, _, _, _⟩) (v := .pointer (some ⟨g, 6, none⟩)) rfl (by kernel_rfl) (by kernel_rfl) (by kernel_rfl) (fun _ _ _ h => h) (Or.inl ⟨by rfl, fun w _ => by first | (go_simp; done) | (go_simp; with_reducible rfl)⟩) trivial ?_
  simp only [Act.put, List.setIfInBounds_toArray, List.set_cons_zero, List.set_cons_succ]
  refine wpAnyH_take (i := 3) (oi := ⟨some 13, Op.fieldAddr 65 (.tmp 12) 0, 0, _, _, _⟩) (v := .pointer (some ⟨g, 6, none⟩)) rfl (by kernel_rfl) (by kernel_rfl) (by kernel_rfl) (fun _ _ _ h => h) (Or.inl ⟨by rfl, fun w _ => by first | (go_simp; done) | (go_simp; with_reducible rfl)⟩) trivial ?_
  simp only [Act.put, List.setIfInBounds_toArray, List.set_cons_zero, List.set_cons_succ]
  refine wpAnyH_take (i := 5) (oi := ⟨some 14, Op.move (.tmp 4), 104, _, _, _⟩) (v := .pointer (some ⟨g, 6, none⟩)) rfl (by kernel_rfl) (by kernel_rfl) (by kernel_rfl) (fun _ _ _ h => h) (Or.inl ⟨by rfl, fun w _ => by first | (go_simp; done) | (go_simp; with_reducible rfl)⟩) trivial ?_
  simp only [Act.put, List.setIfInBounds_toArray, List.set_cons_zero, List.set_cons_succ]
  refine wpAnyH_take (i := 6) (oi := ⟨some 15, Op.nilCheck (.tmp 14), 0, _, _, _⟩) (v := .pointer (some ⟨g, 6, none⟩)) rfl (by kernel_rfl) (by kernel_rfl) (by kernel_rfl) (fun _ _ _ h => h) (Or.inl ⟨by rfl, fun w _ => by first | (go_simp; done) | (go_simp; with_reducible rfl)⟩) trivial ?_
  simp only [Act.put, List.setIfInBounds_toArray, List.set_cons_zero, List.set_cons_succ]
  refine wpAnyH_take (i := 7) (oi := ⟨some 16, Op.fieldAddr 65 (.tmp 15) 1, 0, _, _, _⟩) (v := .pointer (some ⟨g, 7, none⟩)) rfl (by kernel_rfl) (by kernel_rfl) (by kernel_rfl) (fun _ _ _ h => h) (Or.inl ⟨by rfl, fun w _ => by first | (go_simp; done) | (go_simp; with_reducible rfl)⟩) trivial ?_
  simp only [Act.put, List.setIfInBounds_toArray, List.set_cons_zero, List.set_cons_succ]
  refine wpAnyH_take (i := 9) (oi := ⟨some 17, Op.move (.tmp 4), 104, _, _, _⟩) (v := .pointer (some ⟨g, 6, none⟩)) rfl (by kernel_rfl) (by kernel_rfl) (by kernel_rfl) (fun _ _ _ h => h) (Or.inl ⟨by rfl, fun w _ => by first | (go_simp; done) | (go_simp; with_reducible rfl)⟩) trivial ?_
  simp only [Act.put, List.setIfInBounds_toArray, List.set_cons_zero, List.set_cons_succ]
  refine wpAnyH_take (i := 10) (oi := ⟨some 18, Op.nilCheck (.tmp 17), 0, _, _, _⟩) (v := .pointer (some ⟨g, 6, none⟩)) rfl (by kernel_rfl) (by kernel_rfl) (by kernel_rfl) (fun _ _ _ h => h) (Or.inl ⟨by rfl, fun w _ => by first | (go_simp; done) | (go_simp; with_reducible rfl)⟩) trivial ?_
  simp only [Act.put, List.setIfInBounds_toArray, List.set_cons_zero, List.set_cons_succ]
  refine wpAnyH_take (i := 11) (oi := ⟨some 19, Op.fieldAddr 65 (.tmp 18) 2, 0, _, _, _⟩) (v := .pointer (some ⟨g, 8, none⟩)) rfl (by kernel_rfl) (by kernel_rfl) (by kernel_rfl) (fun _ _ _ h => h) (Or.inl ⟨by rfl, fun w _ => by first | (go_simp; done) | (go_simp; with_reducible rfl)⟩) trivial ?_
  simp only [Act.put, List.setIfInBounds_toArray, List.set_cons_zero, List.set_cons_succ]
  refine wpAnyH_take (i := 13) (oi := ⟨some 20, Op.move (.tmp 4), 104, _, _, _⟩) (v := .pointer (some ⟨g, 6, none⟩)) rfl (by kernel_rfl) (by kernel_rfl) (by kernel_rfl) (fun _ _ _ h => h) (Or.inl ⟨by rfl, fun w _ => by first | (go_simp; done) | (go_simp; with_reducible rfl)⟩) trivial ?_
  simp only [Act.put, List.setIfInBounds_toArray, List.set_cons_zero, List.set_cons_succ]
  refine wpAnyH_take (i := 14) (oi := ⟨some 21, Op.nilCheck (.tmp 20), 0, _, _, _⟩) (v := .pointer (some ⟨g, 6, none⟩)) rfl (by kernel_rfl) (by kernel_rfl) (by kernel_rfl) (fun _ _ _ h => h) (Or.inl ⟨by rfl, fun w _ => by first | (go_simp; done) | (go_simp; with_reducible rfl)⟩) trivial ?_
  simp only [Act.put, List.setIfInBounds_toArray, List.set_cons_zero, List.set_cons_succ]
  refine wpAnyH_take (i := 15) (oi := ⟨some 22, Op.fieldAddr 65 (.tmp 21) 3, 0, _, _, _⟩) (v := .pointer (some ⟨g, 9, none⟩)) rfl (by kernel_rfl) (by kernel_rfl) (by kernel_rfl) (fun _ _ _ h => h) (Or.inl ⟨by rfl, fun w _ => by first | (go_simp; done) | (go_simp; with_reducible rfl)⟩) trivial ?_
  simp only [Act.put, List.setIfInBounds_toArray, List.set_cons_zero, List.set_cons_succ]
  refine wpAnyH_take (i := 17) (oi := ⟨some 23, Op.move (.tmp 4), 104, _, _, _⟩) (v := .pointer (some ⟨g, 6, none⟩)) rfl (by kernel_rfl) (by kernel_rfl) (by kernel_rfl) (fun _ _ _ h => h) (Or.inl ⟨by rfl, fun w _ => by first | (go_simp; done) | (go_simp; with_reducible rfl)⟩) trivial ?_
  simp only [Act.put, List.setIfInBounds_toArray, List.set_cons_zero, List.set_cons_succ]
  refine wpAnyH_take (i := 18) (oi := ⟨some 24, Op.nilCheck (.tmp 23), 0, _, _, _⟩) (v := .pointer (some ⟨g, 6, none⟩)) rfl (by kernel_rfl) (by kernel_rfl) (by kernel_rfl) (fun _ _ _ h => h) (Or.inl ⟨by rfl, fun w _ => by first | (go_simp; done) | (go_simp; with_reducible rfl)⟩) trivial ?_
  simp only [Act.put, List.setIfInBounds_toArray, List.set_cons_zero, List.set_cons_succ]
  refine wpAnyH_take (i := 19) (oi := ⟨some 25, Op.fieldAddr 65 (.tmp 24) 4, 0, _, _, _⟩) (v := .pointer (some ⟨g, 10, none⟩)) rfl (by kernel_rfl) (by kernel_rfl) (by kernel_rfl) (fun _ _ _ h => h) (Or.inl ⟨by rfl, fun w _ => by first | (go_simp; done) | (go_simp; with_reducible rfl)⟩) trivial ?_
  simp only [Act.put, List.setIfInBounds_toArray, List.set_cons_zero, List.set_cons_succ]
  refine wpAnyH_take (i := 21) (oi := ⟨some 26, Op.move (.tmp 4), 104, _, _, _⟩) (v := .pointer (some ⟨g, 6, none⟩)) rfl (by kernel_rfl) (by kernel_rfl) (by kernel_rfl) (fun _ _ _ h => h) (Or.inl ⟨by rfl, fun w _ => by first | (go_simp; done) | (go_simp; with_reducible rfl)⟩) trivial ?_
  simp only [Act.put, List.setIfInBounds_toArray, List.set_cons_zero, List.set_cons_succ]
  refine wpAnyH_take (i := 22) (oi := ⟨some 27, Op.nilCheck (.tmp 26), 0, _, _, _⟩) (v := .pointer (some ⟨g, 6, none⟩)) rfl (by kernel_rfl) (by kernel_rfl) (by kernel_rfl) (fun _ _ _ h => h) (Or.inl ⟨by rfl, fun w _ => by first | (go_simp; done) | (go_simp; with_reducible rfl)⟩) trivial ?_
  simp only [Act.put, List.setIfInBounds_toArray, List.set_cons_zero, List.set_cons_succ]
  refine wpAnyH_take (i := 23) (oi := ⟨some 28, Op.fieldAddr 65 (.tmp 27) 5, 0, _, _, _⟩) (v := .pointer (some ⟨g, 11, none⟩)) rfl (by kernel_rfl) (by kernel_rfl) (by kernel_rfl) (fun _ _ _ h => h) (Or.inl ⟨by rfl, fun w _ => by first | (go_simp; done) | (go_simp; with_reducible rfl)⟩) trivial ?_
  simp only [Act.put, List.setIfInBounds_toArray, List.set_cons_zero, List.set_cons_succ]
  refine wpAnyH_take (i := 25) (oi := ⟨some 29, Op.move (.tmp 4), 104, _, _, _⟩) (v := .pointer (some ⟨g, 6, none⟩)) rfl (by kernel_rfl) (by kernel_rfl) (by kernel_rfl) (fun _ _ _ h => h) (Or.inl ⟨by rfl, fun w _ => by first | (go_simp; done) | (go_simp; with_reducible rfl)⟩) trivial ?_
  simp only [Act.put, List.setIfInBounds_toArray, List.set_cons_zero, List.set_cons_succ]
  refine wpAnyH_take (i := 26) (oi := ⟨some 30, Op.nilCheck (.tmp 29), 0, _, _, _⟩) (v := .pointer (some ⟨g, 6, none⟩)) rfl (by kernel_rfl) (by kernel_rfl) (by kernel_rfl) (fun _ _ _ h => h) (Or.inl ⟨by rfl, fun w _ => by first | (go_simp; done) | (go_simp; with_reducible rfl)⟩) trivial ?_
  simp only [Act.put, List.setIfInBounds_toArray, List.set_cons_zero, List.set_cons_succ]
  refine wpAnyH_take (i := 27) (oi := ⟨some 31, Op.fieldAddr 65 (.tmp 30) 6, 0, _, _, _⟩) (v := .pointer (some ⟨g, 12, none⟩)) rfl (by kernel_rfl) (by kernel_rfl) (by kernel_rfl) (fun _ _ _ h => h) (Or.inl ⟨by rfl, fun w _ => by first | (go_simp; done) | (go_simp; with_reducible rfl)⟩) trivial ?_
  simp only [Act.put, List.setIfInBounds_toArray, List.set_cons_zero, List.set_cons_succ]
  refine wpAnyH_ready (rs := [0]) (by kernel_rfl) (by simp) (AllReadyH.cons rfl (fun K' hK' => ?_) AllReadyH.nil)
  go_wp2
  refine hK'.out _ _ trivial (fun _ => ?_)
  clear hK'
  try simp only [Act.put, List.setIfInBounds_toArray, List.set_cons_zero, List.set_cons_succ]
  clear HF
  have hfill := Aside0.mk (show Fill w0 g S W W.heap.size 0 (W.alloc (.map #[] 0)) from ⟨HF1.out.alloc _, (Below.refl _ _).alloc (Nat.le_refl _) _, Nat.le_refl _, .map [], World.ownsMap_made _ _ _ _⟩)
  refine wpAnyH_bag (Fill w0 g S W W.heap.size) base0 fin0 nums (by kernel_rfl) (by decide) repF ?step 2 ?rest 7 [] base0 _ List.nodup_nil (fun d hd => by cases hd) rfl rep0 hfill.out
  case step =>
    intro i hi c w1 hc hI
    have hc7 : c < 7 := hc
    obtain ⟨D, how⟩ := hI.ow
    have hk : ∀ (kk : Int) (cc : Fin 7), (Lit.int .i64 kk).wf = true → ∃ w', (Instr.mapUpdate 106 (.map (some W.heap.size)) (.int .i64 kk) (mkO g cc)).run Try.prog w1 = .ok () w' ∧ Fill w0 g S W W.heap.size (c + 1) w' := by
      intro kk cc hwf
      obtain ⟨w', hrun, ow', hgr⟩ := how.update keyed3 Try.underlying106 (by unfold maxLen; omega) (keyOf_int_mk Try.underlying3 hwf) (rdO_mk g cc)
      have hbe : Below W.heap.size W w' := hI.be.grown hgr hI.be.size (fun k hk => by injection hk with hk; omega)
      exact ⟨w', hrun, HF1.out.below hbe, hbe, hI.hb, _, ow'⟩
    simp only [nums, List.mem_cons, List.not_mem_nil, or_false] at hi
    rcases hi with rfl | rfl | rfl | rfl | rfl | rfl | rfl
    · exact wpOp_insert 4 _ rfl rfl rfl 106 _ _ _ rfl (hk 1 0 (by decide))
    · exact wpOp_insert 8 _ rfl rfl rfl 106 _ _ _ rfl (hk 2 1 (by decide))
    · exact wpOp_insert 12 _ rfl rfl rfl 106 _ _ _ rfl (hk 3 2 (by decide))
    · exact wpOp_insert 16 _ rfl rfl rfl 106 _ _ _ rfl (hk 4 3 (by decide))
    · exact wpOp_insert 20 _ rfl rfl rfl 106 _ _ _ rfl (hk 5 4 (by decide))
    · exact wpOp_insert 24 _ rfl rfl rfl 106 _ _ _ rfl (hk 6 5 (by decide))
    · exact wpOp_insert 28 _ rfl rfl rfl 106 _ _ _ rfl (hk 7 6 (by decide))
  case rest =>
    intro w1 hI
    clear hfill
    obtain ⟨D, how⟩ := hI.ow
    obtain ⟨w2, hrun, hrg, hgr, hsz⟩ := how.range keyed3 Try.underlying106
    have hbe : Below W.heap.size W w2 := hI.be.grown hgr hI.be.size (fun k hk => by cases hk)
    have HRg := Aside0.mk hrg
    have HBe := Aside0.mk hbe
    have Hr := Aside0.mk hI.be.size
    generalize w1.heap.size = r at *
    clear hI how hrg hgr hsz hbe
    unfold fin0
    refine wpAnyH_take (i := 29) (oi := ⟨some 32, Op.move (.tmp 10), 106, _, _, _⟩) (v := .map (some W.heap.size)) rfl (by kernel_rfl) (by kernel_rfl) (by kernel_rfl) (fun _ _ _ h => h) (Or.inl ⟨by rfl, fun w _ => by first | (go_simp; done) | (go_simp; with_reducible rfl)⟩) trivial ?_
    simp only [Act.put, List.setIfInBounds_toArray, List.set_cons_zero, List.set_cons_succ]
    refine wpAnyH_ready (rs := [30]) (by kernel_rfl) (by simp) (AllReadyH.cons rfl (fun K' hK' => ?_) AllReadyH.nil)
    go_wp2
    refine hK'.out _ _ trivial (fun _ => ?_)
    clear hK' hrun
    try simp only [Act.put, List.setIfInBounds_toArray, List.set_cons_zero, List.set_cons_succ]
    refine wpAnyH_done (by kernel_rfl) ?_ _
    have HG0 := Aside0.mk (show W.grownBy w2 (some g) from ⟨HBe.out.os, HBe.out.tape, HBe.out.output, HBe.out.size, fun k hk _ => HBe.out.block k hk⟩)
    have HC0 := Aside0.mk ((HBe.out.block g (blk_lt HF1.out.fs)).trans HF1.out.fs)
    have Hrg := Aside0.mk (show r ≠ g from fun e => by have := blk_lt HF1.out.fs; have := Hr.out; omega)
    have Hhg := Aside0.mk (show W.heap.size ≠ g from fun e => by have := blk_lt HF1.out.fs; omega)
    go_wp2
    go_loopw [5, 6] (fun _ _ wr => ∃ left cnt o', Aside0 (wr.ranges Try.prog 3 (rdO g) W.heap.size r nums.length D left cnt) ∧ Aside0 (W.grownBy wr (some g)) ∧ Aside0 (wr.heap[g]? = some (.cells ({ S with o := o' } : St).cells TFS (0, 0)))) (fun _ _ wr => wr.rangeLeft W.heap.size r)
    case atStart => exact ⟨_, _, S.o, HRg, HG0, HC0⟩
    case round =>
      clear HRg HG0 HC0 HBe
      obtain ⟨left, cnt, o', HRg, HG, HC⟩ := hrel
      go_wp2_with (first
        | (at_next; refine wpList_next_ranges _ rfl _ rfl 3 keyed3 (rdO g) (fun x : Int => Value.int .i64 x) (fun c : Fin 7 => Value.pointer (some ⟨g, 6 + c.val, none⟩)) (fun key kl hk => (Maps.keyOf_int_inv Try.underlying3 hk).imp fun _ hx => hx.1) (rdO_inv g) W.heap.size r nums.length D _ _ rfl HRg.out ?_ ?_)
        | go_in)
      · intro _ _
        have HF := Aside0.mk (HF1.out.setO o' HG.out HC.out)
        have HK := Aside0.mk (show w.grownBy wr (some g) by rw [← HW.out] at HG; exact ⟨HG.out.os, HG.out.tape, HG.out.output, HG.out.size, HG.out.block⟩)
        have hnt : wr.ownsMap Try.prog 3 (plainElem Try.prog 3) S.bn (Maps.size S.nth) S.nth := HF.out.nt
        have hks : Maps.size S.nth ≤ 7 := kinds_size hnt HF.out.nb
        have c5 : wr.cell? ⟨g, 5, none⟩ = some (.map (some S.bn)) := (blk_cell HC.out 5).trans rfl
        have hz : (zeroValue 3).run Try.prog wr = .ok (.int .i64 0) wr := by kernel_rfl
        have hwf : (Lit.int .i64 (op : Int)).wf = true := by
          have := Hop.out
          rcases (show op = 1 ∨ op = 2 ∨ op = 3 ∨ op = 4 ∨ op = 5 ∨ op = 6 ∨ op = 7 by omega) with rfl | rfl | rfl | rfl | rfl | rfl | rfl <;> decide
        clear HRg
        go_wp2_with (first
          | (at_lookup; refine wpList_lookup_own_int _ rfl _ _ 70 rfl 3 3 .i64 keyed3 Try.underlying70 Try.underlying3 hz S.bn _ _ rfl hnt _ _ rfl (keyOf_int_mk Try.underlying3 hwf) ?_; intro cv hat hwc)
          | (at_mapUpdate; refine wpList_mapUpdate_own _ rfl _ _ _ 70 rfl 3 3 keyed3 Try.underlying70 _ S.bn _ _ rfl hnt (by unfold maxLen; omega) _ _ _ rfl rfl (keyOf_int_mk Try.underlying3 hwf) _ [] (plainElem_int Try.underlying3 (wrap64_wf _)) ?_; intro w4 hnt4 hg4)
          | go_in)
        go_end0
        have hKd := HF.out.nb.put op (by have := Hop.out; omega) (by have := Hop.out; omega)
        exact ⟨rfl, ⟨o', _, HF.out.setN hnt4 (kinds_size hnt4 (hKd _)) (hKd _) hg4⟩, But2.of_grown HK.out hg4⟩
      · intro x c kl y ym w3 cnt' hkey hl hv hat hrg1 hlt hg1 hs1 hen
        have hC3 : w3.heap[g]? = some (.cells ({ S with o := o' } : St).cells TFS (0, 0)) := (hg1.block g (blk_lt HC.out) (fun e => by injection e with e; exact Hrg.out e.symm)).trans HC.out
        have HG3 := Aside0.mk (HG.out.andThen hg1 (fun j hj => by injection hj with hj; exact Or.inl (hj ▸ Hr.out)))
        have HR3 := Aside0.mk hrg1
        have Hlt := Aside0.mk hlt
        have c0 : w3.cell? ⟨g, 6 + c.val, none⟩ = some (.int .i64 (o' c.val)) := (blk_cell hC3 _).trans (cells_o _ c)
        have f0 := blk_frozen hC3 (6 + c.val)
        have HC3 := Aside0.mk hC3
        clear hC3 hrg1 hlt hg1 hs1 hat hv hl hkey
        go_wp2
        · go_roundw
          case rel => exact ⟨_, cnt', upd o' c.val _, ⟨HR3.out.kept (grown_set _ _ _ _) (fun e => by injection e with e; exact Hhg.out e) (fun e => by injection e with e; exact Hrg.out e)⟩, ⟨HG3.out.andThen (grown_set _ _ _ _) (fun j hj => Or.inr hj)⟩, ⟨blk_put HC3.out _ _ (cells_upd _ c _)⟩⟩
          case measure => rw [(HR3.out.kept (grown_set _ _ _ _) (fun e => by injection e with e; exact Hhg.out e) (fun e => by injection e with e; exact Hrg.out e)).left_eq, HRg.out.left_eq]; exact Hlt.out
        · go_roundw
          case rel => exact ⟨_, cnt', o', HR3, HG3, HC3⟩
          case measure => rw [HR3.out.left_eq, HRg.out.left_eq]; exact Hlt.out
end Go.Proofs.Ytamhecmopnekjaa.Vf
