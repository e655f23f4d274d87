/- Walks: a Hasher: its memory; start, New, Len, Fork. -/
import Derived.Test.YtililaifppblhaaHsA
import Derived.Deep.RegionLaw
import Derived.Lib.BufferWrite
namespace Go.Proofs.Ytililaifppblhaa.Sha
open Go Go.RowKit Go.Proofs.Ytililaifppblhaa Go.Proofs.YtililaifppblhaaW.PrintWords
set_option linter.unusedVariables false
set_option linter.unusedSimpArgs false

def t3 (n all : Nat) : Array Value := #[.int .i64 (n : Int), .int .i64 (all : Int), .bool true]
def hcs (S : S8) (R : List UInt8) (n all : Nat) : Array Value := cvs S.l ++ (bcs R ++ t3 n all)
/-- A Hasher in block h. -/
structure HB (h : Nat) (S : S8) (R : List UInt8) (n all : Nat) (w : World) : Prop where
  row : w.heap[h]? = some (.cells (hcs S R n all) 53 (0, 0))
  len : R.length = 64
theorem S8.len (S : S8) : (cvs S.l).size = 8 := by rw [cvs_size]; rfl
theorem HB.cn {h : Nat} {S : S8} {R : List UInt8} {n all : Nat} {w : World} (H : HB h S R n all w) : w.cell? ⟨h, 72, none⟩ = some (.int .i64 (n : Int)) := by
  have hl := H.len
  rw [cell_of_row _ _ _ _ _ _ H.row]
  unfold hcs
  rw [Array.getElem?_append_right (by rw [S8.len]; omega), Array.getElem?_append_right (by rw [S8.len, bcs_size]; omega), S8.len, bcs_size, hl]
  rfl
theorem HB.ca {h : Nat} {S : S8} {R : List UInt8} {n all : Nat} {w : World} (H : HB h S R n all w) : w.cell? ⟨h, 73, none⟩ = some (.int .i64 (all : Int)) := by
  have hl := H.len
  rw [cell_of_row _ _ _ _ _ _ H.row]
  unfold hcs
  rw [Array.getElem?_append_right (by rw [S8.len]; omega), Array.getElem?_append_right (by rw [S8.len, bcs_size]; omega), S8.len, bcs_size, hl]
  rfl
theorem HB.cm {h : Nat} {S : S8} {R : List UInt8} {n all : Nat} {w : World} (H : HB h S R n all w) : w.cell? ⟨h, 74, none⟩ = some (.bool true) := by
  have hl := H.len
  rw [cell_of_row _ _ _ _ _ _ H.row]
  unfold hcs
  rw [Array.getElem?_append_right (by rw [S8.len]; omega), Array.getElem?_append_right (by rw [S8.len, bcs_size]; omega), S8.len, bcs_size, hl]
  rfl
theorem HB.cb {h : Nat} {S : S8} {R : List UInt8} {n all : Nat} {w : World} (H : HB h S R n all w) (i : Nat) (hi : i < 64) : w.cell? ⟨h, 8 + i, none⟩ = some (.int .u8 ((R.getD i 0).toNat : Int)) := by
  have hl := H.len
  rw [cell_of_row _ _ _ _ _ _ H.row]
  unfold hcs
  rw [Array.getElem?_append_right (by rw [S8.len]; omega), Array.getElem?_append_left (by rw [S8.len, bcs_size]; omega), S8.len, Nat.add_sub_cancel_left]
  exact bcs_get _ _ (by omega)
theorem HB.fz {h : Nat} {S : S8} {R : List UInt8} {n all : Nat} {w : World} (H : HB h S R n all w) (i : Nat) : w.frozen? ⟨h, i, none⟩ = false := frozen_of_row _ _ _ _ _ H.row
theorem HB.lt {h : Nat} {S : S8} {R : List UInt8} {n all : Nat} {w : World} (H : HB h S R n all w) : h < w.heap.size := (Array.getElem?_eq_some_iff.1 H.row).1
theorem hcs_size (S : S8) (R : List UInt8) (n all : Nat) (h : R.length = 64) : (hcs S R n all).size = 75 := by
  unfold hcs
  rw [Array.size_append, Array.size_append, S8.len, bcs_size, h]; rfl
theorem append_set_right (a b : Array Value) (i : Nat) (v : Value) : (a ++ b).setIfInBounds (a.size + i) v = a ++ b.setIfInBounds i v := by
  apply Array.ext'
  simp [Array.toList_setIfInBounds, List.set_append]
theorem hcs_n (S : S8) (R : List UInt8) (n all : Nat) (h : R.length = 64) (m : Nat) : (hcs S R n all).setIfInBounds 72 (.int .i64 (m : Int)) = hcs S R m all := by
  unfold hcs
  have e1 : 72 = (cvs S.l).size + ((bcs R).size + 0) := by rw [S8.len, bcs_size, h]
  rw [e1, append_set_right, append_set_right]; rfl
theorem hcs_all (S : S8) (R : List UInt8) (n all : Nat) (h : R.length = 64) (m : Nat) : (hcs S R n all).setIfInBounds 73 (.int .i64 (m : Int)) = hcs S R n m := by
  unfold hcs
  have e1 : 73 = (cvs S.l).size + ((bcs R).size + 1) := by rw [S8.len, bcs_size, h]
  rw [e1, append_set_right, append_set_right]; rfl
theorem HB.setn {h : Nat} {S : S8} {R : List UInt8} {n all : Nat} {w : World} (H : HB h S R n all w) (m : Nat) : HB h S R m all (w.setCell ⟨h, 72, none⟩ (.int .i64 (m : Int))) :=
  ⟨by rw [← hcs_n S R n all H.len m]; exact heap_setCell_same _ _ _ _ _ _ H.row, H.len⟩
theorem HB.seta {h : Nat} {S : S8} {R : List UInt8} {n all : Nat} {w : World} (H : HB h S R n all w) (m : Nat) : HB h S R n m (w.setCell ⟨h, 73, none⟩ (.int .i64 (m : Int))) :=
  ⟨by rw [← hcs_all S R n all H.len m]; exact heap_setCell_same _ _ _ _ _ _ H.row, H.len⟩
theorem HB.drew {h : Nat} {S : S8} {R : List UInt8} {n all : Nat} {w : World} (H : HB h S R n all w) : HB h S R n all w.drew := ⟨H.row, H.len⟩
theorem HB.drewN {h : Nat} {S : S8} {R : List UInt8} {n all : Nat} {w : World} (H : HB h S R n all w) (k : Nat) : HB h S R n all (w.drewN k) := ⟨H.row, H.len⟩
theorem HB.kept {h : Nat} {S : S8} {R : List UInt8} {n all : Nat} {w w1 : World} (H : HB h S R n all w) (e : w1.heap[h]? = w.heap[h]?) : HB h S R n all w1 := ⟨e.trans H.row, H.len⟩
theorem HB.below {h : Nat} {S : S8} {R : List UInt8} {n all B : Nat} {w w1 : World} (H : HB h S R n all w) (hb : Below B w w1) (hB : h < B) : HB h S R n all w1 := H.kept (hb.block h hB)

theorem start_any (h : Nat) (S : S8) (R : List UInt8) (n all : Nat) (w : World) (H : HB h S R n all w) : Calls Try.prog 37 #[.pointer (some ⟨h, 0, none⟩)] w fun e w' => e = .returned (.tuple #[]) ∧ w = w' := by
  have cm := H.cm
  clear H
  go_enter Try.func37, Try.ntmps37
  go_wp2
  go_end0
  exact ⟨rfl, rfl⟩
theorem len_any (h : Nat) (S : S8) (R : List UInt8) (n all : Nat) (w : World) (H : HB h S R n all w) : Calls Try.prog 18 #[.pointer (some ⟨h, 0, none⟩)] w fun e w' => e = .returned (.int .i64 (all : Int)) ∧ w = w' := by
  have cm := H.ca
  clear H
  go_enter Try.func18, Try.ntmps18
  go_wp2
  go_ret
  exact ⟨rfl, rfl⟩
theorem hcs_info (S : S8) (R : List UInt8) (n all : Nat) (h : R.length = 64) : (Try.prog.info? 53).map (·.size) = some (hcs S R n all).size := by rw [hcs_size S R n all h]; kernel_rfl
theorem bcs_one (l : List UInt8) : ∀ v ∈ bcs l, v.oneCell' = true := by
  intro v hv
  simp only [bcs, List.mem_toArray, List.mem_map] at hv
  obtain ⟨x, _, rfl⟩ := hv
  rfl
theorem hcs_one (S : S8) (R : List UInt8) (n all : Nat) : (hcs S R n all).all (·.oneCell') = true := by
  rw [Array.all_eq_true_iff_forall_mem]
  intro v hv
  unfold hcs at hv
  rw [Array.mem_append, Array.mem_append] at hv
  rcases hv with h | h | h
  · exact (Array.all_eq_true_iff_forall_mem.1 (cvs_one S.l)) v h
  · exact bcs_one R v h
  · simp [t3] at h
    rcases h with rfl | rfl | rfl <;> rfl
theorem row_new_old (w : World) (cs0 cs : Array Value) (t : TypeId) (h : Nat) (hh : h < w.heap.size) : ((w.alloc (.cells cs0 t)).setRow w.heap.size cs).heap[h]? = w.heap[h]? := by
  rw [setRow_other _ _ _ _ (by omega), Go.heap_alloc_old _ _ hh]
theorem fork_any (h : Nat) (S : S8) (R : List UInt8) (n all : Nat) (w : World) (H : HB h S R n all w) : Calls Try.prog 15 #[.pointer (some ⟨h, 0, none⟩)] w fun e w' => e = .returned (.pointer (some ⟨w.heap.size, 0, none⟩)) ∧ HB w.heap.size S R n all w' ∧ HB h S R n all w' ∧ Below w.heap.size w w' ∧ w'.heap.size = w.heap.size + 1 := by
  have HH := Aside0.mk H
  have hin := hcs_info S R n all H.len
  have Hz := Aside0.mk (show Try.zeroCells53.size = (hcs S R n all).size by rw [hcs_size S R n all H.len]; kernel_rfl)
  clear H
  go_enter Try.func15, Try.ntmps15
  go_upto_region 3 with fail
  go_wp2_with ((first | (refine wpList_load_row rfl 53 _ rfl h rfl _ (hcs S R n all) _ _ HH.out.row Try.underlying53 rfl hin ?_) | (refine wpList_store_row rfl 53 _ _ rfl w.heap.size (hcs S R n all) rfl rfl _ _ (heap_alloc_new w _) hin Hz.out (hcs_one _ _ _ _) ?_)))
  go_ret
  exact ⟨rfl, ⟨row_new _ _ _ _, HH.out.len⟩, HH.out.kept (row_new_old _ _ _ _ _ HH.out.lt), row_new_below _ _ _ _, by rw [size_setRow]; simp⟩
/-- Nothing written. -/
theorem new_any (w : World) : Calls Try.prog 14 #[] w fun e w' => ∃ h, e = .returned (.pointer (some ⟨h, 0, none⟩)) ∧ w.heap.size ≤ h ∧ HB h first8 (List.replicate 64 0) 0 0 w' ∧ Below w.heap.size w w' := by
  have kb : ∀ wx, (Instr.box 53 (.agg (hcs first8 (List.replicate 64 0) 0 0))).run Try.prog wx = .ok (.pointer (some ⟨wx.heap.size, 0, none⟩)) (wx.alloc (.cells (hcs first8 (List.replicate 64 0) 0 0) 53)) := fun _ => rfl
  go_enter Try.func14, Try.ntmps14
  go_wp2_with ((first | (go_at_call 36; refine (first_any _).mono ?_; rintro e w1 ⟨rfl, hb1⟩; have Hb := Aside0.mk hb1; clear hb1) | (refine wpList_buildTo rfl 53 _ rfl (hcs first8 (List.replicate 64 0) 0 0) (by kernel_rfl) ?_)))
  go_ret
  exact ⟨_, rfl, Hb.out.size, ⟨heap_alloc_new _ _, rfl⟩, Hb.out.alloc Hb.out.size _⟩
/-- What a nil Hasher tells. -/
theorem nil_write (s : ByteArray) (w : World) : Calls Try.prog 16 #[.pointer none, .string s] w fun e w' => e = .returned (.tuple #[]) ∧ w = w' := by
  have hup := Try.underlying26
  go_enter Try.func16, Try.ntmps16
  go_wp2
  exact bodyPost_ret (v := .tuple #[]) (results_none rfl _ _ _) rfl ⟨rfl, rfl⟩
theorem nil_sum (w : World) : Calls Try.prog 17 #[.pointer none] w fun e w' => e = .returned (.string ⟨#[]⟩) ∧ w = w' := by
  have hup := Try.underlying26
  go_enter Try.func17, Try.ntmps17
  go_wp2
  go_ret
  exact ⟨rfl, rfl⟩
theorem nil_len (w : World) : Calls Try.prog 18 #[.pointer none] w fun e w' => e = .returned (.int .i64 0) ∧ w = w' := by
  have hup := Try.underlying26
  go_enter Try.func18, Try.ntmps18
  go_wp2
  go_ret
  exact ⟨rfl, rfl⟩
theorem nil_fork (w : World) : Calls Try.prog 15 #[.pointer none] w fun e w' => e = .returned (.pointer none) ∧ w = w' := by
  have hup := Try.underlying26
  go_enter Try.func15, Try.ntmps15
  go_wp2
  go_ret
  exact ⟨rfl, rfl⟩
end Go.Proofs.Ytililaifppblhaa.Sha
