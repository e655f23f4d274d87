/- Walks: the constants. -/
import Derived.Test.YtililaifppblhaaShaP
import Derived.WalkKit
import Derived.KernelRfl
import Derived.Lib.Hide
import Derived.RowKit3
import Derived.Laws.Rows
import Derived.Deep.MidRow
namespace Go.Proofs.Ytililaifppblhaa.Sha
open Go Go.RowKit Go.Proofs.Ytililaifppblhaa Go.Proofs.YtililaifppblhaaW.PrintWords
set_option linter.unusedVariables false
set_option linter.unusedSimpArgs false

theorem wpList_buildTo {P : Program} {ops : Array Oper} {rest : List Oper} {o : Oper} {a : Act} {w : World} {Q : Exit → Act → World → Prop} (hg : o.guard = none) (t : TypeId) (parts : Array (Nat × Operand)) (ho : o.op = .build t parts) (cs : Array Value)
    (hf : P.built t (parts.map fun (i, x) => (i, a.eval x)).toList = some cs)
    (h : wpList P ops Q rest (a.put o.dst (.agg cs)) w) : wpList P ops Q (o :: rest) a w := by
  refine wpList_build hg t parts ho (by rw [hf]; rfl) ?_
  rw [hf]
  exact h

theorem cvs_one (l : List V) : (cvs l).all (·.oneCell') = true := by
  rw [Array.all_eq_true_iff_forall_mem]
  intro v hv
  simp only [cvs, List.mem_toArray, List.mem_map] at hv
  obtain ⟨x, _, rfl⟩ := hv
  rfl
theorem kV_len : kV.length = 64 := by kernel_rfl
theorem cvs_k : (cvs kV).size = 64 := by rw [cvs_size, kV_len]
theorem store_below {B : Nat} {a w : World} (h : Below B a w) (g : Nat) (cs : Array Value) (hg : B ≤ g) : Below B a (w.setRow g cs) :=
  ⟨h.os, h.tape, h.output, by rw [size_setRow]; exact h.size, fun k hk => (setRow_other w g k cs (by omega)).trans (h.block k hk)⟩

theorem row_new (w : World) (cs0 cs : Array Value) (t : TypeId) : ((w.alloc (.cells cs0 t)).setRow w.heap.size cs).heap[w.heap.size]? = some (.cells cs t (0, 0)) :=
  setRow_heap _ _ _ cs _ _ (heap_alloc_new w _)
theorem row_new_below (w : World) (cs0 cs : Array Value) (t : TypeId) : Below w.heap.size w ((w.alloc (.cells cs0 t)).setRow w.heap.size cs) :=
  store_below ((Below.refl _ _).alloc (Nat.le_refl _) _) _ _ (Nat.le_refl _)

theorem cvs_f : (cvs firstV).size = 8 := rfl
set_option maxHeartbeats 400000 in
set_option maxRecDepth 100000 in
theorem const_any (w : World) : Calls Try.prog 49 #[] w fun e w' => e = .returned (.agg (cvs kV)) ∧ Below w.heap.size w w' := by
  go_enter Try.func49, Try.ntmps49
  go_upto_region 1 with fail
  go_wp2_with ((refine wpList_buildTo rfl 66 _ rfl (cvs kV) (by kernel_rfl) ?_); (refine wpList_store_row rfl 66 _ _ rfl w.heap.size (cvs kV) rfl rfl _ _ (heap_alloc_new w _) (by kernel_rfl) cvs_k.symm (cvs_one _) ?_))
  generalize #[Value.int IntKind.u32 0, _, _, _, _, _, _, _, _, _, _, _, _, _, _, _, _, _, _, _, _, _, _, _, _, _, _, _, _, _, _, _, _, _, _, _, _, _, _, _, _, _, _, _, _, _, _, _, _, _, _, _, _, _, _, _, _, _, _, _, _, _, _, _] = zs
  exact bodyPost_ret (v := .agg (cvs kV)) (results_cell_row rfl _ _ w.heap.size 66 (cvs kV) (0, 0) _ rfl (row_new _ _ _ _) Try.underlying66 rfl (by kernel_rfl)) rfl ⟨rfl, row_new_below _ _ _ _⟩
set_option maxHeartbeats 400000 in
set_option maxRecDepth 100000 in
theorem ref_const_any (w : World) : Calls Try.prog 48 #[] w fun e w' => e = .returned (.agg (cvs kV)) ∧ Below w.heap.size w w' := by
  go_enter Try.func48, Try.ntmps48
  go_upto_region 1 with fail
  go_wp2_with ((refine wpList_buildTo rfl 66 _ rfl (cvs kV) (by kernel_rfl) ?_); (refine wpList_store_row rfl 66 _ _ rfl w.heap.size (cvs kV) rfl rfl _ _ (heap_alloc_new w _) (by kernel_rfl) cvs_k.symm (cvs_one _) ?_))
  generalize #[Value.int IntKind.u32 0, _, _, _, _, _, _, _, _, _, _, _, _, _, _, _, _, _, _, _, _, _, _, _, _, _, _, _, _, _, _, _, _, _, _, _, _, _, _, _, _, _, _, _, _, _, _, _, _, _, _, _, _, _, _, _, _, _, _, _, _, _, _, _] = zs
  exact bodyPost_ret (v := .agg (cvs kV)) (results_cell_row rfl _ _ w.heap.size 66 (cvs kV) (0, 0) _ rfl (row_new _ _ _ _) Try.underlying66 rfl (by kernel_rfl)) rfl ⟨rfl, row_new_below _ _ _ _⟩
set_option maxHeartbeats 400000 in
set_option maxRecDepth 100000 in
theorem first_any (w : World) : Calls Try.prog 36 #[] w fun e w' => e = .returned (.agg (cvs firstV)) ∧ Below w.heap.size w w' := by
  go_enter Try.func36, Try.ntmps36
  go_upto_region 1 with fail
  go_wp2_with ((refine wpList_buildTo rfl 49 _ rfl (cvs firstV) (by kernel_rfl) ?_); (refine wpList_store_row rfl 49 _ _ rfl w.heap.size (cvs firstV) rfl rfl _ _ (heap_alloc_new w _) (by kernel_rfl) cvs_f.symm (cvs_one _) ?_))
  generalize #[Value.int IntKind.u32 0, _, _, _, _, _, _, _] = zs
  exact bodyPost_ret (v := .agg (cvs firstV)) (results_cell_row rfl _ _ w.heap.size 49 (cvs firstV) (0, 0) _ rfl (row_new _ _ _ _) Try.underlying49 rfl (by kernel_rfl)) rfl ⟨rfl, row_new_below _ _ _ _⟩
end Go.Proofs.Ytililaifppblhaa.Sha
