/- strings.Builder at this program: copyCheck, WriteString, WriteByte over the library's relation IsBuilderF; String is the shelf's. -/
import Derived.Test.YtehnpmkfgdmmmaaProg
import Derived.Test.YtehnpmkfgdmmmaaShelf
import Derived.WalkKit
import Derived.KernelRfl
import Derived.Lib.OthersKept
import Derived.Lib.Builder
import Derived.Lib.UnsafeStr
import Derived.Laws.Externs
import Derived.Lib.FrozenHead2
import Derived.Lib.Hide
import Derived.RowKit3
import Derived.Test.YtehnpmkfgdmmmaaShaM
import Derived.Test.YtehnpmkfgdmmmaaMcA
import Derived.Deep.RegionLaw
import Derived.Lib.BufferWrite
import Derived.Outline
import Derived.IntWalk
import Derived.Test.YtehnpmkfgdmmmaaShaS
namespace Go.Proofs.Ytehnpmkfgdmmmaa
open Go Go.RowKit
set_option linter.unusedVariables false
set_option linter.unusedSimpArgs false

theorem infoByte : (Try.prog.info? 5).map (fun i => (i.zero, i.size, i.bytes)) = some (some (.int .u8 0), 1, 1) := by kernel_rfl

abbrev BldF (B b : Nat) (bs : List Value) (w : World) : Prop := Lib.IsBuilderF 76 5 B b bs w
abbrev BldAt (B b : Nat) (bs : List Value) (w : World) : Prop := Lib.BuilderAtF 76 5 B b (.pointer (some ⟨b, 0, none⟩)) bs w

theorem sizeBuilder : (Try.prog.info? 76).map (·.size) = some 2 := by kernel_rfl
theorem liesBuilder : liesAt Try.prog Try.prog.depth 76 (2 / Try.prog.cellsOf 76) 0 76 1 = true := by kernel_rfl

set_option maxHeartbeats 1000000 in
set_option maxRecDepth 100000 in
theorem bld_copyCheck (B b : Nat) (bs : List Value) (w : World) (h : BldF B b bs w) :
    Calls Try.prog 65 #[.pointer (some ⟨b, 0, none⟩)] w fun e w' => e = .returned (.tuple #[]) ∧ BldAt B b bs w' ∧ Below B w w' ∧ Lib.OthersKept 5 (some b) w w' := by
  obtain ⟨j, hj, hjs⟩ := Option.map_eq_some_iff.1 sizeBuilder
  rcases h with h | h
  · have h' := h
    obtain ⟨hB, v, hbk, hown, hne⟩ := h
    have c0 : w.cell? ⟨b, 0, none⟩ = some (.pointer none) := by rw [Lib.cell_of_heap hbk]; rfl
    have f0 : w.frozen? ⟨b, 0, none⟩ = false := Lib.frozen_of_heap hbk 0
    have hsh : w.shape? b = some (76, 2) := by simp [World.shape?, hbk]
    have Hbk := Lib.hid hbk
    clear hown hbk
    go_enter Try.func65, Try.ntmps65
    go_wp2
    rw [Lib.run_to_unsafe w ⟨b, 0, none⟩ Try.underlying74 Try.underlying106 hj (by rw [hjs]; decide) hsh (Nat.zero_lt_succ 1)]
    simp only [Result.andThen]
    rw [Oper.upon_value]
    go_wp2
    rw [run_callFunc_extern Try.func79 (by kernel_rfl) (by kernel_rfl) (by kernel_rfl) (e := Extern.AbiNoEscape.same) (by kernel_rfl)]
    rw [Lib.run_noEscape]
    simp only [Result.andThen]
    rw [Oper.upon_value]
    go_wp2
    rw [Lib.run_from_unsafe w ⟨b, 0, none⟩ Try.underlying106 Try.underlying74 hj hsh liesBuilder]
    simp only [Result.andThen]
    rw [Oper.upon_value]
    go_wp2
    go_end0
    exact ⟨rfl, h'.used _, (Below.refl B w).setCell (p := ⟨b, 0, none⟩) h'.1 _, (Lib.OthersKept.refl _ _ w).setCell ⟨b, 0, none⟩ rfl _⟩
  · have h' := h
    obtain ⟨hB, v, hbk, hown, hne⟩ := h
    have c0 : w.cell? ⟨b, 0, none⟩ = some (.pointer (some ⟨b, 0, none⟩)) := by rw [Lib.cell_of_heap hbk]; rfl
    clear hown hbk
    go_enter Try.func65, Try.ntmps65
    go_wp2
    rw [Lib.run_neq_ptr_same w _ Try.underlying74 hj]
    go_wp2
    go_end0
    exact ⟨rfl, h', Below.refl B _, Lib.OthersKept.refl _ _ _⟩

set_option maxHeartbeats 2000000 in
set_option maxRecDepth 100000 in
theorem bld_WriteString (B b : Nat) (bs : List Value) (s : ByteArray) (w : World) (h : BldF B b bs w) (hlen : bs.length + s.size ≤ 140737488355328) (hBw : B ≤ w.heap.size) :
    Calls Try.prog 71 #[.pointer (some ⟨b, 0, none⟩), .string s] w fun e w' => e = .returned (.tuple #[.int .i64 s.size, .nilIface]) ∧ BldAt B b (bs ++ Lib.strCells s) w' ∧ Below B w w' ∧ Lib.OthersKept 5 (some b) w w' := by
  obtain ⟨i0, hi, hz0, hz1, hz2⟩ := info_parts infoByte
  go_enter Try.func71, Try.ntmps71
  go_wp2_with (go_at_call 65; refine (bld_copyCheck B b bs _ h).mono ?_)
  rintro e w1 ⟨rfl, h1, hb1, hk1⟩
  obtain ⟨hB, v, hbk, hown, hne⟩ := h1
  have c0 : w1.cell? ⟨b, 0, none⟩ = some (.pointer (some ⟨b, 0, none⟩)) := by rw [Lib.cell_of_heap hbk]; rfl
  have c1 : w1.cell? ⟨b, 1, none⟩ = some v := by rw [Lib.cell_of_heap hbk]; rfl
  go_wp2_with (at_builtin; refine Lib.wpList_append_own_stringF _ rfl _ _ 37 9 rfl B 5 i0 Try.underlying37 Try.underlying9 hi hz0 hz1 hz2 _ _ _ rfl hown s rfl ?c3 ?c4 ?c5 ?_)
  case c3 => unfold maxLen; omega
  case c4 => omega
  case c5 => have := hb1.size; omega
  intro v' w2 hown' hgrow _
  have hlt : b < w1.heap.size := by
    rcases Nat.lt_or_ge b w1.heap.size with h' | h'
    · exact h'
    · simp [Array.getElem?_eq_none h'] at hbk
  have hb2 : w2.heap[b]? = some (.cells #[.pointer (some ⟨b, 0, none⟩), v] 76 (0, 0)) := by
    rw [hgrow.block b hlt (fun e => hne e.symm)]
    exact hbk
  have d0 : w2.cell? ⟨b, 0, none⟩ = some (.pointer (some ⟨b, 0, none⟩)) := by rw [Lib.cell_of_heap hb2]; rfl
  have d1 : w2.cell? ⟨b, 1, none⟩ = some v := by rw [Lib.cell_of_heap hb2]; rfl
  have f1 : w2.frozen? ⟨b, 1, none⟩ = false := Lib.frozen_of_heap hb2 1
  obtain ⟨ao, n', cap, rfl⟩ : ∃ ao n' cap, v' = .slice ao n' cap := by
    rcases hown'.2 with ⟨hv, _⟩ | ⟨g, cap, cur, fz, hv, _⟩
    · exact ⟨_, _, _, hv⟩
    · exact ⟨_, _, _, hv⟩
  go_wp2
  go_ret2
  refine ⟨rfl, ?_, ?_, (hk1.grown hgrow (Lib.ownsRowF_kind hown)).setCell ⟨b, 1, none⟩ rfl _⟩
  · exact Lib.BuilderAtF.put (T := 76) (e := 5) hB hb2 (bs' := bs ++ Lib.strCells s) (by simpa [Lib.strCells_length] using hown') (by decide)
  · exact (hb1.grown hgrow (by have := hb1.size; omega) (fun k hk => (hown.lt k hk).1)).setCell (p := ⟨b, 1, none⟩) hB _
end Go.Proofs.Ytehnpmkfgdmmmaa
/- Walks: mac's number; a Hasher's memory: start, New. -/
namespace Go.Proofs.Ytehnpmkfgdmmmaa.Sha
open Go Go.RowKit Go.Proofs.Ytehnpmkfgdmmmaa Go.Proofs.YtehnpmkfgdmmmaaW.PrintWords
set_option linter.unusedVariables false
set_option linter.unusedSimpArgs false

/-! ### Cells of bytes -/
def bcs (l : List UInt8) : Array Value := (l.map fun c => Value.int .u8 (c.toNat : Int)).toArray
theorem bcs_size (l : List UInt8) : (bcs l).size = l.length := by simp [bcs]
theorem bcs_get (l : List UInt8) (i : Nat) (h : i < l.length) : (bcs l)[i]? = some (.int .u8 ((l.getD i 0).toNat : Int)) := by
  simp [bcs, List.getElem?_eq_getElem h]
theorem bcs_set (l : List UInt8) (i : Nat) (x : UInt8) : (bcs l).setIfInBounds i (.int .u8 (x.toNat : Int)) = bcs (l.set i x) := by
  apply Array.ext'
  simp [bcs]
/-- A number's bytes, as far as they are put from behind. -/
def numAcc (m : Nat) (i : Nat) : List UInt8 := List.replicate (8 - i) 0 ++ (numB m).drop (8 - i)
theorem numAcc_len (m i : Nat) (h : i ≤ 8) : (numAcc m i).length = 8 := by
  unfold numAcc
  rw [List.length_append, List.length_replicate, List.length_drop, show (numB m).length = 8 from rfl]; omega
theorem numAcc_put (m i : Nat) (h : i < 8) : (numAcc m i).set (7 - i) (b8 (m / 2 ^ (8 * i))) = numAcc m (i + 1) := by
  rcases (show i = 0 ∨ i = 1 ∨ i = 2 ∨ i = 3 ∨ i = 4 ∨ i = 5 ∨ i = 6 ∨ i = 7 by omega) with rfl | rfl | rfl | rfl | rfl | rfl | rfl | rfl
  case inl => rw [show m / 2 ^ (8 * 0) = m by simp]; rfl
  all_goals rfl
theorem row_of_bcs (w : World) (g : Nat) (l : List UInt8) (t : TypeId) (h : w.heap[g]? = some (.cells (bcs l) t (0, 0))) : RowB g l w := fun i hi =>
  ⟨(cell_of_row _ _ _ _ _ _ h).trans (bcs_get _ _ hi), frozen_of_row _ _ _ _ _ h⟩

set_option maxHeartbeats 1000000 in
set_option maxRecDepth 100000 in
theorem number_any (m : Nat) (w : World) (hm : m < 18446744073709551616) : Calls Try.prog 70 #[.int .u64 (m : Int)] w fun e w' => e = .returned (.string ⟨(numB m).toArray⟩) ∧ Below w.heap.size w w' := by
  have Hm := Aside0.mk hm
  clear hm
  go_enter Try.func70, Try.ntmps70
  go_upto_region 2 with fail
  have Hb := Aside0.mk (heap_alloc_new w (.cells (bcs (numAcc m 0)) 113))
  have HB := Aside0.mk ((Below.refl w.heap.size w).alloc (Nat.le_refl _) (.cells (bcs (numAcc m 0)) 113))
  rw [show (#[.int .u8 0, .int .u8 0, .int .u8 0, .int .u8 0, .int .u8 0, .int .u8 0, .int .u8 0, .int .u8 0] : Array Value) = bcs (numAcc m 0) from rfl]
  go_wp2
  go_loopw [0, 5] (fun nv iv wr => ∃ i x : Nat, i ≤ 8 ∧ iv = .int .i64 i ∧ nv = .int .u64 (x : Int) ∧ Aside0 (x = m / 2 ^ (8 * i)) ∧ Aside0 (wr.heap[w.heap.size]? = some (.cells (bcs (numAcc m i)) 113 (0, 0))) ∧ Aside0 (Below w.heap.size w wr)) (fun _ iv _ => 8 - (intOf iv).toNat)
  case atStart => exact ⟨0, m, Nat.zero_le _, rfl, rfl, ⟨by simp⟩, Hb, HB⟩
  case round =>
    clear Hb HB
    obtain ⟨i, x, hi, rfl, rfl, Hx, Hb, HB⟩ := hrel
    by_cases hlt : i < 8
    · have hc := row_of_bcs _ _ _ _ Hb.out (7 - i) (by rw [numAcc_len m i hi]; omega)
      have hc1 := hc.1
      have hc2 := hc.2
      clear hc
      generalize (numAcc m i).getD (7 - i) 0 = old at *
      go_wp2
      go_roundw
      case rel =>
        have e1 := numAcc_put m i hlt
        have e2 : (x : Int) % 256 = ((b8 (m / 2 ^ (8 * i))).toNat : Int) := by rw [b8_nat, ← Hx.out]; omega
        refine ⟨i + 1, x / 256, by omega, by go_num, by go_num, ⟨?_⟩, ⟨?_⟩, ⟨HB.out.setCell (p := ⟨w.heap.size, 7 - i, none⟩) (Nat.le_refl _) _⟩⟩
        · rw [Hx.out, Nat.div_div_eq_div_mul, show 8 * (i + 1) = 8 * i + 8 by omega, Nat.pow_add]
        · rw [← e1, ← bcs_set, ← e2]
          exact heap_setCell_same _ _ _ _ _ _ Hb.out
      case measure => simp [intOf]; omega
    · obtain rfl : i = 8 := by omega
      have hsl : (Instr.sliceAt 113 (.pointer (some ⟨w.heap.size, 0, none⟩)) none none none).run Try.prog wr = .ok (.slice (some ⟨w.heap.size, 0, none⟩) 8 8) wr := by kernel_rfl
      have hcv := (row_of_bcs _ _ _ _ Hb.out).text 8 8 (numAcc_len m 8 hi)
      go_wp2
      go_ret
      exact ⟨rfl, HB.out⟩
end Go.Proofs.Ytehnpmkfgdmmmaa.Sha
/- Walks: a Hasher: its memory; start, New, Len, Fork. -/
namespace Go.Proofs.Ytehnpmkfgdmmmaa.Sha
open Go Go.RowKit Go.Proofs.Ytehnpmkfgdmmmaa Go.Proofs.YtehnpmkfgdmmmaaW.PrintWords
set_option linter.unusedVariables false
set_option linter.unusedSimpArgs false

def t3 (n all : Nat) : Array Value := #[.int .i64 (n : Int), .int .i64 (all : Int), .bool true]
def hcs (S : S8) (R : List UInt8) (n all : Nat) : Array Value := cvs S.l ++ (bcs R ++ t3 n all)
/-- A Hasher in block h. -/
structure HB (h : Nat) (S : S8) (R : List UInt8) (n all : Nat) (w : World) : Prop where
  row : w.heap[h]? = some (.cells (hcs S R n all) 97 (0, 0))
  len : R.length = 64
theorem S8.len (S : S8) : (cvs S.l).size = 8 := by rw [cvs_size]; rfl
theorem HB.cn {h : Nat} {S : S8} {R : List UInt8} {n all : Nat} {w : World} (H : HB h S R n all w) : w.cell? ⟨h, 72, none⟩ = some (.int .i64 (n : Int)) := by
  have hl := H.len
  rw [cell_of_row _ _ _ _ _ _ H.row]
  unfold hcs
  rw [Array.getElem?_append_right (by rw [S8.len]; omega), Array.getElem?_append_right (by rw [S8.len, bcs_size]; omega), S8.len, bcs_size, hl]
  rfl
theorem HB.ca {h : Nat} {S : S8} {R : List UInt8} {n all : Nat} {w : World} (H : HB h S R n all w) : w.cell? ⟨h, 73, none⟩ = some (.int .i64 (all : Int)) := by
  have hl := H.len
  rw [cell_of_row _ _ _ _ _ _ H.row]
  unfold hcs
  rw [Array.getElem?_append_right (by rw [S8.len]; omega), Array.getElem?_append_right (by rw [S8.len, bcs_size]; omega), S8.len, bcs_size, hl]
  rfl
theorem HB.cm {h : Nat} {S : S8} {R : List UInt8} {n all : Nat} {w : World} (H : HB h S R n all w) : w.cell? ⟨h, 74, none⟩ = some (.bool true) := by
  have hl := H.len
  rw [cell_of_row _ _ _ _ _ _ H.row]
  unfold hcs
  rw [Array.getElem?_append_right (by rw [S8.len]; omega), Array.getElem?_append_right (by rw [S8.len, bcs_size]; omega), S8.len, bcs_size, hl]
  rfl
theorem HB.cb {h : Nat} {S : S8} {R : List UInt8} {n all : Nat} {w : World} (H : HB h S R n all w) (i : Nat) (hi : i < 64) : w.cell? ⟨h, 8 + i, none⟩ = some (.int .u8 ((R.getD i 0).toNat : Int)) := by
  have hl := H.len
  rw [cell_of_row _ _ _ _ _ _ H.row]
  unfold hcs
  rw [Array.getElem?_append_right (by rw [S8.len]; omega), Array.getElem?_append_left (by rw [S8.len, bcs_size]; omega), S8.len, Nat.add_sub_cancel_left]
  exact bcs_get _ _ (by omega)
theorem HB.fz {h : Nat} {S : S8} {R : List UInt8} {n all : Nat} {w : World} (H : HB h S R n all w) (i : Nat) : w.frozen? ⟨h, i, none⟩ = false := frozen_of_row _ _ _ _ _ H.row
theorem HB.lt {h : Nat} {S : S8} {R : List UInt8} {n all : Nat} {w : World} (H : HB h S R n all w) : h < w.heap.size := (Array.getElem?_eq_some_iff.1 H.row).1
theorem hcs_size (S : S8) (R : List UInt8) (n all : Nat) (h : R.length = 64) : (hcs S R n all).size = 75 := by
  unfold hcs
  rw [Array.size_append, Array.size_append, S8.len, bcs_size, h]; rfl
theorem append_set_right (a b : Array Value) (i : Nat) (v : Value) : (a ++ b).setIfInBounds (a.size + i) v = a ++ b.setIfInBounds i v := by
  apply Array.ext'
  simp [Array.toList_setIfInBounds, List.set_append]
theorem hcs_n (S : S8) (R : List UInt8) (n all : Nat) (h : R.length = 64) (m : Nat) : (hcs S R n all).setIfInBounds 72 (.int .i64 (m : Int)) = hcs S R m all := by
  unfold hcs
  have e1 : 72 = (cvs S.l).size + ((bcs R).size + 0) := by rw [S8.len, bcs_size, h]
  rw [e1, append_set_right, append_set_right]; rfl
theorem hcs_all (S : S8) (R : List UInt8) (n all : Nat) (h : R.length = 64) (m : Nat) : (hcs S R n all).setIfInBounds 73 (.int .i64 (m : Int)) = hcs S R n m := by
  unfold hcs
  have e1 : 73 = (cvs S.l).size + ((bcs R).size + 1) := by rw [S8.len, bcs_size, h]
  rw [e1, append_set_right, append_set_right]; rfl
theorem HB.setn {h : Nat} {S : S8} {R : List UInt8} {n all : Nat} {w : World} (H : HB h S R n all w) (m : Nat) : HB h S R m all (w.setCell ⟨h, 72, none⟩ (.int .i64 (m : Int))) :=
  ⟨by rw [← hcs_n S R n all H.len m]; exact heap_setCell_same _ _ _ _ _ _ H.row, H.len⟩
theorem HB.seta {h : Nat} {S : S8} {R : List UInt8} {n all : Nat} {w : World} (H : HB h S R n all w) (m : Nat) : HB h S R n m (w.setCell ⟨h, 73, none⟩ (.int .i64 (m : Int))) :=
  ⟨by rw [← hcs_all S R n all H.len m]; exact heap_setCell_same _ _ _ _ _ _ H.row, H.len⟩
theorem HB.drew {h : Nat} {S : S8} {R : List UInt8} {n all : Nat} {w : World} (H : HB h S R n all w) : HB h S R n all w.drew := ⟨H.row, H.len⟩
theorem HB.drewN {h : Nat} {S : S8} {R : List UInt8} {n all : Nat} {w : World} (H : HB h S R n all w) (k : Nat) : HB h S R n all (w.drewN k) := ⟨H.row, H.len⟩
theorem HB.kept {h : Nat} {S : S8} {R : List UInt8} {n all : Nat} {w w1 : World} (H : HB h S R n all w) (e : w1.heap[h]? = w.heap[h]?) : HB h S R n all w1 := ⟨e.trans H.row, H.len⟩
theorem HB.below {h : Nat} {S : S8} {R : List UInt8} {n all B : Nat} {w w1 : World} (H : HB h S R n all w) (hb : Below B w w1) (hB : h < B) : HB h S R n all w1 := H.kept (hb.block h hB)

theorem start_any (h : Nat) (S : S8) (R : List UInt8) (n all : Nat) (w : World) (H : HB h S R n all w) : Calls Try.prog 67 #[.pointer (some ⟨h, 0, none⟩)] w fun e w' => e = .returned (.tuple #[]) ∧ w = w' := by
  have cm := H.cm
  clear H
  go_enter Try.func67, Try.ntmps67
  go_wp2
  go_end0
  exact ⟨rfl, rfl⟩
theorem hcs_info (S : S8) (R : List UInt8) (n all : Nat) (h : R.length = 64) : (Try.prog.info? 97).map (·.size) = some (hcs S R n all).size := by rw [hcs_size S R n all h]; kernel_rfl
theorem bcs_one (l : List UInt8) : ∀ v ∈ bcs l, v.oneCell' = true := by
  intro v hv
  simp only [bcs, List.mem_toArray, List.mem_map] at hv
  obtain ⟨x, _, rfl⟩ := hv
  rfl
theorem hcs_one (S : S8) (R : List UInt8) (n all : Nat) : (hcs S R n all).all (·.oneCell') = true := by
  rw [Array.all_eq_true_iff_forall_mem]
  intro v hv
  unfold hcs at hv
  rw [Array.mem_append, Array.mem_append] at hv
  rcases hv with h | h | h
  · exact (Array.all_eq_true_iff_forall_mem.1 (cvs_one S.l)) v h
  · exact bcs_one R v h
  · simp [t3] at h
    rcases h with rfl | rfl | rfl <;> rfl
theorem row_new_old (w : World) (cs0 cs : Array Value) (t : TypeId) (h : Nat) (hh : h < w.heap.size) : ((w.alloc (.cells cs0 t)).setRow w.heap.size cs).heap[h]? = w.heap[h]? := by
  rw [setRow_other _ _ _ _ (by omega), Go.heap_alloc_old _ _ hh]
/-- Nothing written. -/
theorem new_any (w : World) : Calls Try.prog 56 #[] w fun e w' => ∃ h, e = .returned (.pointer (some ⟨h, 0, none⟩)) ∧ w.heap.size ≤ h ∧ HB h first8 (List.replicate 64 0) 0 0 w' ∧ Below w.heap.size w w' := by
  have kb : ∀ wx, (Instr.box 97 (.agg (hcs first8 (List.replicate 64 0) 0 0))).run Try.prog wx = .ok (.pointer (some ⟨wx.heap.size, 0, none⟩)) (wx.alloc (.cells (hcs first8 (List.replicate 64 0) 0 0) 97)) := fun _ => rfl
  go_enter Try.func56, Try.ntmps56
  go_wp2_with ((first | (go_at_call 66; refine (first_any _).mono ?_; rintro e w1 ⟨rfl, hb1⟩; have Hb := Aside0.mk hb1; clear hb1) | (refine wpList_buildTo rfl 97 _ rfl (hcs first8 (List.replicate 64 0) 0 0) (by kernel_rfl) ?_)))
  go_ret
  exact ⟨_, rfl, Hb.out.size, ⟨heap_alloc_new _ _, rfl⟩, Hb.out.alloc Hb.out.size _⟩
/-- What a nil Hasher tells. -/
theorem nil_write (s : ByteArray) (w : World) : Calls Try.prog 57 #[.pointer none, .string s] w fun e w' => e = .returned (.tuple #[]) ∧ w = w' := by
  have hup := Try.underlying82
  go_enter Try.func57, Try.ntmps57
  go_wp2
  exact bodyPost_ret (v := .tuple #[]) (results_none rfl _ _ _) rfl ⟨rfl, rfl⟩
theorem nil_sum (w : World) : Calls Try.prog 58 #[.pointer none] w fun e w' => e = .returned (.string ⟨#[]⟩) ∧ w = w' := by
  have hup := Try.underlying82
  go_enter Try.func58, Try.ntmps58
  go_wp2
  go_ret
  exact ⟨rfl, rfl⟩
end Go.Proofs.Ytehnpmkfgdmmmaa.Sha
/- Walks: Write, of a Hasher. -/
namespace Go.Proofs.Ytehnpmkfgdmmmaa.Sha
open Go Go.RowKit Go.Proofs.Ytehnpmkfgdmmmaa Go.Proofs.YtehnpmkfgdmmmaaW.PrintWords
set_option linter.unusedVariables false
set_option linter.unusedSimpArgs false

theorem HB.text {h : Nat} {S : S8} {R : List UInt8} {n all : Nat} {w : World} (H : HB h S R n all w) : (convert 37 9 (.slice (some ⟨h, 8, none⟩) 64 64)).run Try.prog w = .ok (.string ⟨R.toArray⟩) w := by
  have hl := H.len
  have hcv := run_convert_bytes_arg (P := Try.prog) w 37 5 Try.underlying37 Try.underlying5 h 8 64 64 (R.map fun c => (c.toNat : Int)) (by rw [List.length_map, hl]) (fun i hi => by
    rw [H.cb i hi, List.getD_eq_getElem?_getD, List.getD_eq_getElem?_getD, List.getElem?_map, List.getElem?_eq_getElem (by omega)]; rfl) 9 Try.underlying9
  rw [← row_str]
  exact hcv
theorem Kb.trans {h : Nat} {w w1 w2 : World} (k : Kb h w w1) (k2 : Kb h w1 w2) : Kb h w w2 :=
  ⟨k2.os.trans k.os, k2.tape.trans k.tape, k2.output.trans k.output, Nat.le_trans k.size k2.size, fun i hi hn => (k2.block i (Nat.lt_of_lt_of_le hi k.size) hn).trans (k.block i hi hn)⟩
/-! ### What was written -/
theorem foldB_app : ∀ (q : Nat) (s : S8) (l m : List UInt8), 64 * q ≤ l.length → foldB q s (l ++ m) = foldB q s l
  | 0, _, _, _, _ => rfl
  | q + 1, s, l, m, h => by
    rw [foldB, foldB, List.take_append_of_le_length (by omega), List.drop_append_of_le_length (by omega)]
    exact foldB_app q _ _ _ (by rw [List.length_drop]; omega)
/-- A Hasher's words and its last bytes, behind a text. -/
structure Absd (S : S8) (R : List UInt8) (n : Nat) (msg : List UInt8) : Prop where
  cnt : n = msg.length % 64
  st : S = foldB (msg.length / 64) first8 msg
  tl : R.take n = msg.drop (64 * (msg.length / 64))
def HX (h : Nat) (msg : List UInt8) (all : Nat) (w : World) : Prop := ∃ S R n, HB h S R n all w ∧ Absd S R n msg
theorem absd_nil : Absd first8 (List.replicate 64 0) 0 [] := ⟨rfl, rfl, rfl⟩
def lay (R : List UInt8) (n : Nat) (p : List UInt8) : List UInt8 := R.take n ++ p ++ R.drop (n + p.length)
theorem lay_len (R : List UInt8) (n : Nat) (p : List UInt8) (h : n + p.length ≤ R.length) : (lay R n p).length = R.length := by
  unfold lay
  simp only [List.length_append, List.length_take, List.length_drop]
  omega
theorem lay_take (R : List UInt8) (n : Nat) (p : List UInt8) (h : n + p.length ≤ R.length) : (lay R n p).take (n + p.length) = R.take n ++ p := by
  unfold lay
  have e : (R.take n ++ p).length = n + p.length := by rw [List.length_append, List.length_take]; omega
  rw [← e, List.take_left]
theorem absd_some {S : S8} {R : List UInt8} {n : Nat} {msg p : List UInt8} (H : Absd S R n msg) (hR : R.length = 64) (h : n + p.length < 64) : Absd S (lay R n p) (n + p.length) (msg ++ p) := by
  obtain ⟨hn, hs, hr⟩ := H
  have hq : (msg ++ p).length / 64 = msg.length / 64 := by rw [List.length_append]; omega
  refine ⟨by rw [List.length_append]; omega, ?_, ?_⟩
  · rw [hq, foldB_app _ _ _ _ (by omega), hs]
  · rw [hq, lay_take R n p (by omega), hr, List.drop_append_of_le_length (by omega)]
theorem absd_full {S : S8} {R : List UInt8} {n : Nat} {msg p : List UInt8} (H : Absd S R n msg) (hR : R.length = 64) (h : n + p.length = 64) : Absd (blockV S (lay R n p)) (lay R n p) 0 (msg ++ p) := by
  obtain ⟨hn, hs, hr⟩ := H
  have hq : (msg ++ p).length / 64 = msg.length / 64 + 1 := by rw [List.length_append]; omega
  have hl := lay_len R n p (by omega)
  have ht := lay_take R n p (by omega)
  rw [h, List.take_of_length_le (by omega), hr, ← List.drop_append_of_le_length (by omega)] at ht
  refine ⟨by rw [List.length_append]; omega, ?_, ?_⟩
  · rw [hq, foldB_snoc, foldB_app _ _ _ _ (by omega), ← hs, ← ht, List.take_of_length_le (by omega)]
  · rw [hq, List.take_zero, List.drop_eq_nil_of_le (by rw [List.length_append]; omega)]

theorem step_copy_rowstr {P : Program} {ops : Array Oper} {o : Oper} {a : Act} {w : World} {K : Act → World → Prop} {Q : Exit → Act → World → Prop} {E : Prop}
    (hg : o.guard = none) (d x : Operand) (dT sT : TypeId) (hop : o.op = Op.call { callee := Callee.builtin Builtin.copy, args := #[d, x], argTypes := #[dT, sT] })
    (elem : TypeId) (hu : P.underlying dT = some (.slice elem)) (hz : (P.info? elem).map (·.size) = some 1)
    (b off dLen dCap : Nat) (hd : a.eval d = .slice (some ⟨b, off, none⟩) dLen dCap) (t : ByteArray) (hx : a.eval x = .string t)
    (cur : Array Value) (ty : TypeId) (hrow : w.heap[b]? = some (.cells cur ty (0, 0))) (k : Nat) (hk : k = Nat.min t.size dLen) (hfit : off + k ≤ cur.size)
    (hK : K (a.put o.dst (goInt k)) (w.setRow b (cur.toList.take off ++ (Lib.byteCells (t.data.toList.take k) ++ cur.toList.drop (off + k))).toArray)) :
    if Region.wanted o (yielded ops a.tmps) = true then Oper.wp P o a w K Q else E := by
  have hw : Region.wanted o (yielded ops a.tmps) = true := by simp [Region.wanted, hg]
  rw [if_pos hw]
  have hl : (Lib.byteCells (t.data.toList.take k)).length = k := by
    rw [Lib.byteCells_length, List.length_take, Array.length_toList]
    have : t.data.size = t.size := rfl
    have h2 : Nat.min t.size dLen ≤ t.size := Nat.min_le_left _ _
    omega
  have hst := run_storeCells_at P b off ty (Lib.byteCells (t.data.toList.take k)) 0 cur w hrow (by rw [hl]; simpa using hfit) (Lib.byteCells_one _)
  have hrun : (Builtin.copy_ #[dT, sT] o.type #[.slice (some ⟨b, off, none⟩) dLen dCap, .string t]).run P w = .ok (goInt k) (w.setRow b (cur.toList.take off ++ (Lib.byteCells (t.data.toList.take k) ++ cur.toList.drop (off + k))).toArray) := by
    rw [hl] at hst
    simp only [Nat.add_zero, List.append_assoc] at hst
    cases hq : P.info? elem with
    | none => simp [hq] at hz
    | some i =>
      have htk : List.take k (List.map (fun b : UInt8 => Value.int IntKind.u8 (b.toNat : Int)) t.data.toList) = Lib.byteCells (t.data.toList.take k) := by
        rw [← List.map_take]; rfl
      simp [Builtin.copy_, run_underlying hu, Builtin.lenOf, Builtin.firstCells, sizeOf, typeInfo, hq, ← hk]
      rw [htk, hst]
      simp [Result.andThen]
  unfold Oper.wp
  simp [execOp, hop, resolve, invoke, builtin, hd, hx, hrun, Result.andThen]
  exact hK
theorem hcs_lay (S : S8) (R : List UInt8) (n all m : Nat) (h : R.length = 64) (p : List UInt8) (hp : n + p.length ≤ 64) : ((hcs S R m all).toList.take (8 + n) ++ Lib.byteCells p ++ (hcs S R m all).toList.drop (8 + n + p.length)).toArray = hcs S (lay R n p) m all := by
  have e8 : (cvs S.l).toList.length = 8 := by rw [Array.length_toList, S8.len]
  have eb : ∀ l : List UInt8, (bcs l).toList = Lib.byteCells l := fun l => by simp [bcs, Lib.byteCells]
  have hb : (Lib.byteCells R).length = 64 := by rw [Lib.byteCells_length]; exact h
  have ea : ∀ l m : List UInt8, Lib.byteCells (l ++ m) = Lib.byteCells l ++ Lib.byteCells m := fun l m => by simp [Lib.byteCells]
  have et : ∀ (l : List UInt8) (k : Nat), Lib.byteCells (l.take k) = (Lib.byteCells l).take k := fun l k => by simp [Lib.byteCells]
  have ed : ∀ (l : List UInt8) (k : Nat), Lib.byteCells (l.drop k) = (Lib.byteCells l).drop k := fun l k => by simp [Lib.byteCells]
  apply Array.ext'
  unfold hcs lay
  simp only [Array.toList_append, eb, ea, et, ed]
  rw [List.take_append, List.take_of_length_le (by omega), e8, Nat.add_sub_cancel_left, List.take_append_of_le_length (by omega), List.drop_append, List.drop_eq_nil_of_le (by omega), e8, show 8 + n + p.length - 8 = n + p.length by omega, List.drop_append_of_le_length (by omega)]
  simp
theorem HB.laid {h : Nat} {S : S8} {R : List UInt8} {n all m : Nat} {w : World} (H : HB h S R m all w) (p : List UInt8) (hp : n + p.length ≤ 64) (k : Nat) (hk : k = p.length) : HB h S (lay R n p) m all (w.setRow h ((hcs S R m all).toList.take (8 + n) ++ (Lib.byteCells p ++ (hcs S R m all).toList.drop (8 + n + k))).toArray) := by
  subst hk
  rw [← List.append_assoc, hcs_lay S R n all m H.len p hp]
  exact ⟨setRow_heap _ _ _ _ _ _ H.row, by rw [lay_len _ _ _ (by rw [H.len]; exact hp)]; exact H.len⟩
theorem toList_nil (s : ByteArray) (h : s.size = 0) : s.toList = [] := by
  have : s.data.toList.length = 0 := by rw [Array.length_toList]; exact h
  rw [ByteArray.toList_eq, List.eq_nil_of_length_eq_zero this]
theorem isEmpty_not (s : ByteArray) (h : ¬ s.size = 0) : s.toList.isEmpty = false := by
  have : s.data.toList.length ≠ 0 := by rw [Array.length_toList]; exact h
  rw [ByteArray.toList_eq]
  cases hl : s.data.toList with
  | nil => simp [hl] at this
  | cons a l => rfl
def stl : Value → Nat | .string s => s.size | _ => 0
set_option maxHeartbeats 1000000 in
set_option maxRecDepth 100000 in
theorem write_any (h : Nat) (msg : List UInt8) (all : Nat) (s : ByteArray) (w : World) (H : HX h msg all w) (hs : s.size ≤ 2305843009213693952) (ha : all ≤ 2305843009213693952) :
    Calls Try.prog 57 #[.pointer (some ⟨h, 0, none⟩), .string s] w fun e w' => e = .returned (.tuple #[]) ∧ HX h (msg ++ s.data.toList) (all + s.size) w' ∧ Kb h w w' := by
  obtain ⟨S, R, n, HH, Ha⟩ := H
  have ca := HH.ca
  have fa := HH.fz 73
  have Hs := Aside0.mk hs
  have Ha := Aside0.mk Ha
  have H0 := Aside0.mk (show HX h (msg ++ s.data.toList.take 0) (all + s.size) (w.setCell ⟨h, 73, none⟩ (.int .i64 ((all + s.size : Nat) : Int))) from ⟨S, R, n, HH.seta _, by simpa using Ha.out⟩)
  have HK := Aside0.mk ((Kb.refl h w).cell ⟨h, 73, none⟩ (.int .i64 ((all + s.size : Nat) : Int)) (.inr rfl))
  have HH := Aside0.mk HH
  rw [Int.natCast_add] at H0 HK
  go_enter Try.func57, Try.ntmps57
  go_wp2_with ((first | (go_at_call 67; refine (start_any _ _ _ _ _ _ HH.out).mono ?_; rintro e w1 ⟨rfl, rfl⟩)))
  clear HH Ha ca fa
  go_loopw [1] (fun sv wr => ∃ k : Nat, k ≤ s.size ∧ sv = .string (s.extract k s.size) ∧ Aside0 (HX h (msg ++ s.data.toList.take k) (all + s.size) wr) ∧ Aside0 (Kb h w wr)) (fun sv _ => stl sv)
  case atStart => exact ⟨0, Nat.zero_le _, by rw [ByteArray.extract_zero_size], H0, HK⟩
  case round =>
    clear H0 HK
    obtain ⟨k, hk, rfl, HX1, HK⟩ := hrel
    have hT : (s.extract k s.size).size = s.size - k := by rw [ByteArray.size_extract]; omega
    have hTd : (s.extract k s.size).data.toList = s.data.toList.drop k := by
      rw [Lib.extract_data, List.take_of_length_le]
      rw [List.length_drop, Array.length_toList]
      have : s.data.size = s.size := rfl
      omega
    obtain ⟨T, hTe⟩ : ∃ T, s.extract k s.size = T := ⟨_, rfl⟩
    rw [hTe] at hT hTd ⊢
    by_cases hlt : k < s.size
    · obtain ⟨S1, R1, n1, HB1, Ha1⟩ := HX1.out
      clear HX1
      have hn1 : n1 < 64 := by rw [Ha1.cnt]; exact Nat.mod_lt _ (by omega)
      have he := isEmpty_not T (by omega)
      have c72 := HB1.cn
      have f72 := HB1.fz 72
      obtain ⟨k1, hk1⟩ : ∃ k1, k1 = min T.size (64 - n1) := ⟨_, rfl⟩
      have Hk1 := Aside0.mk hk1
      have k1a : n1 + k1 ≤ 64 := by omega
      have k1b : k1 ≤ T.size := by omega
      have k1c : 1 ≤ k1 := by omega
      have h64 : ¬ (64 = n1) := by omega
      have HT := Aside0.mk hT
      have HTd := Aside0.mk hTd
      have HTe := Aside0.mk hTe
      have HB1 := Aside0.mk HB1
      have Ha1 := Aside0.mk Ha1
      have HB1L := Aside0.mk HB1.out.len
      have n1i : (0 : Int) ≤ (n1 : Int) := by omega
      have n1j : (n1 : Int) ≤ 64 := by omega
      clear hT hTd hTe hk1
      go_upto_region 4 with fail
      go_region_law (refine step_copy_rowstr rfl (.tmp 27) (.tmp 28) 37 9 rfl 5 Try.underlying37 (by kernel_rfl) h (8 + n1) (64 - n1) (64 - n1) rfl T rfl _ _ HB1.out.row k1 Hk1.out (by rw [hcs_size _ _ _ _ HB1.out.len]; omega) ?_)
      have hTl : T.data.toList.length = T.size := Array.length_toList
      have hpl : (T.data.toList.take k1).length = k1 := by rw [List.length_take]; omega
      have HL := Aside0.mk (HB1.out.drew.laid (n := n1) (T.data.toList.take k1) (by omega) k1 hpl.symm)
      have HK2 := Aside0.mk ((HK.out.drew).row h ((hcs S1 R1 n1 (all + s.size)).toList.take (8 + n1) ++ (Lib.byteCells (T.data.toList.take k1) ++ (hcs S1 R1 n1 (all + s.size)).toList.drop (8 + n1 + k1))).toArray (.inr rfl))
      have hd2 : s.data.toList.take k ++ T.data.toList.take k1 = s.data.toList.take (k + k1) := by
        rw [HTd.out, List.take_add]
      have Hd2 := Aside0.mk hd2
      have hTe2 : T.extract k1 T.size = s.extract (k + k1) s.size := by
        apply row_data_inj
        rw [Lib.extract_data, HTd.out, Lib.extract_data, List.drop_drop, HT.out, List.take_of_length_le, List.take_of_length_le]
        · rw [List.length_drop, Array.length_toList]
          have : s.data.size = s.size := rfl
          omega
        · rw [List.length_drop, Array.length_toList]
          have : s.data.size = s.size := rfl
          omega
      have HTe2 := Aside0.mk hTe2
      have Hpl := Aside0.mk hpl
      have k1d : (k1 : Int) ≤ (T.size : Int) := by omega
      have k1e : (0 : Int) ≤ (k1 : Int) := by omega
      generalize (wr.drew).setRow h _ = w2 at HL HK2 ⊢
      clear hTl hpl hTe2 hd2 c72 f72 he HB1
      obtain ⟨L, hL⟩ : ∃ L, lay R1 n1 (T.data.toList.take k1) = L := ⟨_, rfl⟩
      have HLe := Aside0.mk hL
      rw [hL] at HL
      clear hL
      have c72 := HL.out.cn
      have f72 := HL.out.fz 72
      have HB3 := Aside0.mk (HL.out.setn (n1 + k1))
      have HK3 := Aside0.mk (HK2.out.cell ⟨h, 72, none⟩ (.int .i64 ((n1 + k1 : Nat) : Int)) (.inr rfl))
      rw [Int.natCast_add] at HB3 HK3
      by_cases hfull : n1 + k1 = 64
      · have hfi : (n1 : Int) + (k1 : Int) = 64 := by omega
        have h9 := absd_full Ha1.out HB1L.out (p := T.data.toList.take k1) (by rw [Hpl.out]; exact hfull)
        rw [HLe.out] at h9
        rw [hfi] at HB3 HK3
        rw [hfull] at HB3
        have H9 := Aside0.mk h9
        have hLs : (⟨L.toArray⟩ : ByteArray).size = 64 := by rw [← HL.out.len]; exact List.size_toArray
        have HLs := Aside0.mk hLs
        have hsl : ∀ wx, (Instr.sliceAt 95 (.pointer (some ⟨h, 8, none⟩)) none none none).run Try.prog wx = .ok (.slice (some ⟨h, 8, none⟩) 64 64) wx := fun wx => by kernel_rfl
        have hcv := (HB3.out.drew).text
        clear h9 hLs k1a k1b k1c hn1
        go_upto_region 8 with fail
        go_region_with (first | (go_at_call 68; refine (block_any h S1 (bcs L ++ t3 64 (all + s.size)) _ ⟨L.toArray⟩ _ HB3.out.drew.row HLs.out).mono ?_; rintro e1 w4 ⟨rfl, hrow, hkb⟩; have HB4 := Aside0.mk (show HB h (blockV S1 L) L 64 (all + s.size) w4 from ⟨hrow, HL.out.len⟩); have HK4 := Aside0.mk (HK3.out.drew.trans hkb); clear hrow hkb))
        all_goals
          have c72 := HB4.out.cn
          have f72 := HB4.out.fz 72
          have HB5 := Aside0.mk (HB4.out.setn 0)
          have HK5 := Aside0.mk (HK4.out.cell ⟨h, 72, none⟩ (.int .i64 ((0 : Nat) : Int)) (.inr rfl))
          go_wp2
          go_roundw
          case rel =>
            refine ⟨k + k1, by have := HT.out; have := Hk1.out; omega, by rw [HTe2.out], ⟨blockV S1 L, L, 0, HB5.out, ?_⟩, HK5⟩
            rw [← Hd2.out, ← List.append_assoc]
            exact H9.out
          case measure => have := Hk1.out; have := HT.out; simp [stl, ByteArray.size_extract]; omega
      · have hfi : ¬ ((n1 : Int) + (k1 : Int) = 64) := by omega
        have e0 : ((64 : Nat) : Int) = 64 := rfl
        have he2 : (((n1 : Int) + (k1 : Int)) == 64) = false := by simpa using hfi
        clear e0
        go_wp2
        go_roundw
        case rel =>
          refine ⟨k + k1, by have := HT.out; omega, by rw [HTe2.out], ⟨S1, L, n1 + k1, HB3.out, ?_⟩, HK3⟩
          rw [← Hd2.out, ← List.append_assoc, ← HLe.out]
          have h9 := absd_some Ha1.out HB1L.out (p := T.data.toList.take k1) (by rw [Hpl.out]; omega)
          rw [Hpl.out] at h9
          exact h9
        case measure => simp [stl, ByteArray.size_extract]; omega
    · obtain rfl : k = s.size := by omega
      have he := toList_nil T (by omega)
      have HTd := Aside0.mk hTd
      clear hT hTd hTe
      have hX := HX1.out
      rw [List.take_of_length_le (by rw [Array.length_toList]; exact Nat.le_refl _)] at hX
      have HX2 := Aside0.mk hX
      clear hX HX1
      go_wp2
      go_end0
      exact ⟨rfl, HX2.out, HK.out⟩
end Go.Proofs.Ytehnpmkfgdmmmaa.Sha
/- Walks: Sum, of a Hasher. -/
namespace Go.Proofs.Ytehnpmkfgdmmmaa.Sha
open Go Go.RowKit Go.Proofs.Ytehnpmkfgdmmmaa Go.Proofs.YtehnpmkfgdmmmaaW.PrintWords
set_option linter.unusedVariables false
set_option linter.unusedSimpArgs false

theorem Below.of_eq {B : Nat} {w w' : World} (h : w' = w) : Below B w w' := by subst h; exact Below.refl _ _
theorem repeatL_one (c : UInt8) : ∀ n, Lib.repeatL [c] n = List.replicate n c
  | 0 => rfl
  | n + 1 => by
    show c :: Lib.repeatL [c] n = _
    rw [repeatL_one c n]; rfl
theorem repeat_any (z : Nat) (w : World) (hz : z ≤ 64) : Calls Try.prog 69 #[.string ⟨#[0]⟩, .int .i64 (z : Int)] w fun e w' => ∃ t : ByteArray, e = .returned (.string t) ∧ t.data.toList = List.replicate z 0 ∧ t.size = z ∧ Below w.heap.size w w' := by
  rcases (show z = 0 ∨ z = 1 ∨ 2 ≤ z by omega) with rfl | rfl | h2
  · refine (Try.strings_Repeat_zero ⟨#[0]⟩ w).mono ?_
    rintro e w' ⟨rfl, h⟩
    exact ⟨_, rfl, rfl, rfl, Below.of_eq h⟩
  · refine (Try.strings_Repeat_one ⟨#[0]⟩ w).mono ?_
    rintro e w' ⟨rfl, h⟩
    exact ⟨_, rfl, rfl, rfl, Below.of_eq h⟩
  · refine (Try.strings_Repeat_main ⟨#[0]⟩ z w h2 (by omega) (by show 1 * z ≤ _; omega) (by decide)).mono ?_
    rintro e w' ⟨rfl, h⟩
    have e1 : Lib.repeatL ([0] : List UInt8) z = List.replicate z 0 := repeatL_one 0 z
    refine ⟨_, rfl, e1, ?_, h⟩
    show ((Lib.repeatL ([0] : List UInt8) z).toArray).size = z
    rw [e1]; simp
theorem number_n (m : Nat) (w : World) (hm : m < 18446744073709551616) : Calls Try.prog 70 #[.int .u64 (m : Int)] w fun e w' => ∃ t : ByteArray, e = .returned (.string t) ∧ t.data.toList = numB m ∧ t.size = 8 ∧ Below w.heap.size w w' := by
  refine (number_any m w hm).mono ?_
  rintro e w' ⟨rfl, h⟩
  exact ⟨_, rfl, rfl, rfl, h⟩
theorem fresh_builder (w : World) : BldF w.heap.size w.heap.size [] (w.alloc (.cells #[.pointer none, .slice none 0 0] 76)) := Lib.IsBuilderF.of (Lib.fresh_isBuilder 76 5 w)
theorem BldF.below {B b : Nat} {bs : List Value} {w w1 : World} (h : BldF B b bs w) (hb : Below w.heap.size w w1) : BldF B b bs w1 := by
  have hg : w.grownBy w1 none := ⟨hb.os, hb.tape, hb.output, hb.size, fun k hk _ => hb.block k hk⟩
  rcases h with h | h
  · have hlt := h.lt
    obtain ⟨hB, v, h1, hown, hne⟩ := h
    exact .inl ⟨hB, v, (hb.block _ hlt).trans h1, hown.kept hg (by cases hv : v.ownBlock <;> simp), hne⟩
  · have hlt := h.lt
    obtain ⟨hB, v, h1, hown, hne⟩ := h
    exact .inr ⟨hB, v, (hb.block _ hlt).trans h1, hown.kept hg (by cases hv : v.ownBlock <;> simp), hne⟩
theorem BldF.lt {B b : Nat} {bs : List Value} {w : World} (h : BldF B b bs w) : b < w.heap.size := by
  rcases h with h | h <;> exact h.lt
theorem kb_below {B c : Nat} {w0 w1 w2 : World} (hb : Below B w0 w1) (hk : Kb c w1 w2) (h1 : B ≤ c) (h2 : B ≤ w1.heap.size) : Below B w0 w2 :=
  ⟨hk.os.trans hb.os, hk.tape.trans hb.tape, hk.output.trans hb.output, Nat.le_trans hb.size hk.size, fun k hk' => (hk.block k (by omega) (by omega)).trans (hb.block k hk')⟩
theorem HX.fin {c : Nat} {msg : List UInt8} {all : Nat} {w : World} (H : HX c msg all w) : ∃ R n, HB c (foldB (msg.length / 64) first8 msg) R n all w := by
  obtain ⟨S, R, n, H1, H2⟩ := H
  rw [← H2.st]
  exact ⟨R, n, H1⟩
theorem HB.cw {h : Nat} {S : S8} {R : List UInt8} {n all : Nat} {w : World} (H : HB h S R n all w) (i : Nat) (x : V) (hx : S.l[i]? = some x) : w.cell? ⟨h, i, none⟩ = some (.int .u32 (x.toNat : Int)) := by
  have hi : i < 8 := (List.getElem?_eq_some_iff.1 hx).1
  rw [cell_of_row _ _ _ _ _ _ H.row]
  unfold hcs
  rw [Array.getElem?_append_left (by rw [S8.len]; exact hi)]
  simp [cvs, hx]
theorem idxS (S : S8) (i : Nat) (hi : i < 8) (w : World) : (Instr.index 93 (.agg #[.int .u32 (S.a.toNat : Int), .int .u32 (S.b.toNat : Int), .int .u32 (S.c.toNat : Int), .int .u32 (S.d.toNat : Int), .int .u32 (S.e.toNat : Int), .int .u32 (S.f.toNat : Int), .int .u32 (S.g.toNat : Int), .int .u32 (S.h.toNat : Int)]) (.int .i64 (i : Int))).run Try.prog w = .ok (.int .u32 ((S.l.getD i 0).toNat : Int)) w := by
  rcases (show i = 0 ∨ i = 1 ∨ i = 2 ∨ i = 3 ∨ i = 4 ∨ i = 5 ∨ i = 6 ∨ i = 7 by omega) with rfl | rfl | rfl | rfl | rfl | rfl | rfl | rfl <;> kernel_rfl
theorem numB_tail (x : V) : (numB x.toNat).drop 4 = wordB x := by
  have := x.isLt
  unfold numB wordB
  rfl
theorem wordB_len (x : V) : (wordB x).length = 4 := rfl
theorem flat_len : ∀ L : List V, (L.flatMap wordB).length = 4 * L.length
  | [] => rfl
  | x :: L => by rw [List.flatMap_cons, List.length_append, flat_len L, List.length_cons, wordB_len]; omega
theorem flat_step (S : S8) (i : Nat) (hi : i < 8) : (S.l.take (i + 1)).flatMap wordB = (S.l.take i).flatMap wordB ++ wordB (S.l.getD i 0) := by
  rw [List.take_succ_eq_append_getElem (show i < S.l.length from hi), List.flatMap_append, List.getD_eq_getElem?_getD, List.getElem?_eq_getElem (show i < S.l.length from hi)]
  simp
/-- The state of Sum: the Hasher asked, its copy. -/
structure SB (w0 : World) (h c : Nat) (msg : List UInt8) (w : World) : Prop where
  hx : HX h msg msg.length w
  cx : HX c msg msg.length w
  be : Below w0.heap.size w0 w
  lt : h < w0.heap.size ∧ w0.heap.size ≤ c ∧ c < w.heap.size
theorem HX.kept {h : Nat} {msg : List UInt8} {all : Nat} {w w1 : World} (H : HX h msg all w) (e : w1.heap[h]? = w.heap[h]?) : HX h msg all w1 := by
  obtain ⟨S, R, n, H1, H2⟩ := H
  exact ⟨S, R, n, H1.kept e, H2⟩
theorem HX.lt {h : Nat} {msg : List UInt8} {all : Nat} {w : World} (H : HX h msg all w) : h < w.heap.size := by
  obtain ⟨S, R, n, H1, H2⟩ := H
  exact H1.lt
theorem HX.ca {h : Nat} {msg : List UInt8} {all : Nat} {w : World} (H : HX h msg all w) : w.cell? ⟨h, 73, none⟩ = some (.int .i64 (all : Int)) := by
  obtain ⟨S, R, n, H1, H2⟩ := H
  exact H1.ca
theorem HX.cn {h : Nat} {msg : List UInt8} {all : Nat} {w : World} (H : HX h msg all w) : w.cell? ⟨h, 72, none⟩ = some (.int .i64 ((msg.length % 64 : Nat) : Int)) := by
  obtain ⟨S, R, n, H1, H2⟩ := H
  rw [← H2.cnt]
  exact H1.cn
theorem SB.drew {w0 : World} {h c : Nat} {msg : List UInt8} {w : World} (H : SB w0 h c msg w) : SB w0 h c msg w.drew := ⟨H.hx.kept rfl, H.cx.kept rfl, H.be.drew, H.lt⟩
theorem SB.drewN {w0 : World} {h c : Nat} {msg : List UInt8} {w : World} (H : SB w0 h c msg w) (k : Nat) : SB w0 h c msg (w.drewN k) := ⟨H.hx.kept rfl, H.cx.kept rfl, pw_below_drewN H.be k, H.lt⟩
theorem SB.below {w0 : World} {h c : Nat} {msg : List UInt8} {w w1 : World} (H : SB w0 h c msg w) (hb : Below w.heap.size w w1) : SB w0 h c msg w1 := by
  have hz := H.be.size
  have hl := H.lt
  have hs := hb.size
  exact ⟨H.hx.kept (hb.block _ (by omega)), H.cx.kept (hb.block _ hl.2.2), H.be.trans (hb.mono hz), hl.1, hl.2.1, by omega⟩
theorem sb_start (w : World) (h : Nat) (S : S8) (R : List UInt8) (n : Nat) (msg : List UInt8) (zs : Array Value) (H : HB h S R n msg.length w) (Ha : Absd S R n msg) : SB w h w.heap.size msg ((w.alloc (.cells zs 97)).setRow w.heap.size (hcs S R n msg.length)) :=
  ⟨⟨S, R, n, H.kept (row_new_old _ _ _ _ _ H.lt), Ha⟩, ⟨S, R, n, ⟨row_new _ _ _ _, H.len⟩, Ha⟩, row_new_below _ _ _ _, H.lt, Nat.le_refl _, by rw [size_setRow]; simp⟩
set_option maxHeartbeats 1000000 in
set_option maxRecDepth 100000 in
theorem sum_any (h : Nat) (msg : List UInt8) (w : World) (H : HX h msg msg.length w) (hm : msg.length ≤ 1152921504606846976) :
    Calls Try.prog 58 #[.pointer (some ⟨h, 0, none⟩)] w fun e w' => e = .returned (.string ⟨(sumV msg).toArray⟩) ∧ Below w.heap.size w w' := by
  obtain ⟨S, R, n, HH, Ha⟩ := H
  have HG := Aside0.mk (sb_start w h S R n msg Try.zeroCells97 HH Ha)
  have hin := hcs_info S R n msg.length HH.len
  have Hz := Aside0.mk (show Try.zeroCells97.size = (hcs S R n msg.length).size by rw [hcs_size S R n msg.length HH.len]; kernel_rfl)
  have HH := Aside0.mk HH
  have hn : n < 64 := by rw [Ha.cnt]; exact Nat.mod_lt _ (by omega)
  have Ha := Aside0.mk Ha
  go_enter Try.func58, Try.ntmps58
  go_upto_region 4 with ((first | (go_at_call 67; refine (start_any _ _ _ _ _ _ HH.out).mono ?_; rintro e w1 ⟨rfl, rfl⟩)))
  go_upto_region 5 with ((first | (refine wpList_load_row rfl 97 _ rfl h rfl _ (hcs S R n msg.length) _ _ HH.out.row Try.underlying97 rfl hin ?_) | (refine wpList_store_row rfl 97 _ _ rfl w.heap.size (hcs S R n msg.length) rfl rfl _ _ (heap_alloc_new w _) hin Hz.out (hcs_one _ _ _ _) ?_)))
  generalize (w.alloc (.cells Try.zeroCells97 97)).setRow w.heap.size (hcs S R n msg.length) = W1 at HG ⊢
  obtain ⟨c, hc⟩ : ∃ c, w.heap.size = c := ⟨_, rfl⟩
  rw [hc] at HG ⊢
  have c72 := HG.out.hx.cn
  have c73 := HG.out.hx.ca
  rw [← Ha.out.cnt] at c72
  obtain ⟨L, hL⟩ : ∃ L, msg.length = L := ⟨_, rfl⟩
  have HL := Aside0.mk hL
  rw [hL] at c73 hm
  have n1 : (0 : Int) ≤ (n : Int) := by omega
  have n2 : (n : Int) < 64 := by omega
  have l1 : (0 : Int) ≤ (L : Int) := by omega
  have u1 : IntKind.u64.wrap (L : Int) = (L : Int) := by
    show (L : Int) % 18446744073709551616 = _
    omega
  have u2 : IntKind.u64.wrap (8 * (L : Int)) = ((8 * L : Nat) : Int) := by
    show (8 * (L : Int)) % 18446744073709551616 = _
    omega
  obtain ⟨z, hz⟩ : ∃ z, padN L = z := ⟨_, rfl⟩
  have hz2 : z ≤ 64 := by have := padN_lt L; omega
  have hz3 : (119 - (n : Int)) % 64 = (z : Int) := by
    have := Ha.out.cnt
    rw [hL] at this
    unfold padN at hz
    omega
  have Hz3 := Aside0.mk hz
  clear hin Hz hL hc hz HH Ha hn
  go_upto_region 6 with fail
  rw [hz3]
  clear hz3
  have HLL := Aside0.mk HL.out
  go_region_with (first
    | (go_at_call 69; refine (repeat_any z _ hz2).mono ?_; rintro e1 w2 ⟨t, rfl, ht, hts, hb⟩; have q1 : (9223372036854775807 < 1 + t.size) = False := eq_false (by omega); (try (have q2 : (9223372036854775807 < 1 + t.size + u.size) = False := eq_false (by have := Hus.out; omega))); have Ht := Aside0.mk ht; have Hts := Aside0.mk hts; have n0_ : SB w h c msg w2 := (by first | exact HG.out.below hb | exact HG.out.drew.below hb | exact (HG.out.drewN _).below hb); clear HG ht hts hb c73; have HG := Aside0.mk n0_; clear n0_; have c73 := HG.out.hx.ca; rw [HLL.out] at c73)
    | (go_at_call 70; refine (number_n (8 * L) _ (by omega)).mono ?_; rintro e1 w2 ⟨u, rfl, hu, hus, hb⟩; (try (have q2 : (9223372036854775807 < 1 + t.size + u.size) = False := eq_false (by have := Hts.out; omega))); have Hu := Aside0.mk hu; have Hus := Aside0.mk hus; have n0_ : SB w h c msg w2 := (by first | exact HG.out.below hb | exact HG.out.drew.below hb | exact (HG.out.drewN _).below hb); clear HG hu hus hb c73; have HG := Aside0.mk n0_; clear n0_; have c73 := HG.out.hx.ca; rw [HLL.out] at c73)
    | (go_at_call 57; refine (write_any c msg msg.length _ _ HG.out.cx (by rw [ByteArray.size_append, ByteArray.size_append, Hts.out, Hus.out]; show 1 + z + 8 ≤ _; omega) (by rw [HLL.out]; omega)).mono ?_; rintro e1 w3 ⟨rfl, hx, hk⟩; have Hx := Aside0.mk hx; have HBe := Aside0.mk (kb_below HG.out.be hk HG.out.lt.2.1 HG.out.be.size); clear hx hk))
  all_goals
    have hmsg : msg ++ (⟨#[128]⟩ ++ t ++ u : ByteArray).data.toList = padded msg := by
      unfold padded tailB
      rw [ByteArray.data_append, ByteArray.data_append, Array.toList_append, Array.toList_append, Ht.out, Hu.out, HLL.out, Hz3.out, Nat.mod_eq_of_lt (by omega)]
      simp
    obtain ⟨R3, n3, HB3⟩ := Hx.out.fin
    rw [hmsg] at HB3
    have HB3 := Aside0.mk HB3
    clear hmsg Hx HG c72 c73 q1 q2 Ht Hts Hu Hus u1 u2 hm l1
    obtain ⟨X, hX⟩ : ∃ X, foldB ((padded msg).length / 64) first8 (padded msg) = X := ⟨_, rfl⟩
    have HX := Aside0.mk hX
    rw [hX] at HB3
    clear hX
    obtain ⟨xa, xb, xc, xd, xe, xf, xg, xh⟩ := X
    have HB4 := Aside0.mk (HB3.out.kept (w1 := w3.alloc (.cells #[.pointer none, .slice none 0 0] 76)) (Go.heap_alloc_old _ _ HB3.out.lt))
    have c0a := HB4.out.cw 0 xa rfl
    have c1a := HB4.out.cw 1 xb rfl
    have c2a := HB4.out.cw 2 xc rfl
    have c3a := HB4.out.cw 3 xd rfl
    have c4a := HB4.out.cw 4 xe rfl
    have c5a := HB4.out.cw 5 xf rfl
    have c6a := HB4.out.cw 6 xg rfl
    have c7a := HB4.out.cw 7 xh rfl
    have Hbl := Aside0.mk (fresh_builder w3)
    have Hbe := Aside0.mk (HBe.out.alloc HBe.out.size (.cells #[.pointer none, .slice none 0 0] 76))
    go_wp2
    clear HB3 HB4 c0a c1a c2a c3a c4a c5a c6a c7a
    have Hg := Aside0.mk HBe.out.size
    generalize w3.heap.size = g at Hbl Hbe Hg ⊢
    obtain ⟨X, hXe⟩ : ∃ X : S8, X = ⟨xa, xb, xc, xd, xe, xf, xg, xh⟩ := ⟨_, rfl⟩
    have HXe := Aside0.mk hXe
    clear hXe
    go_loopw [35] (fun iv wr => ∃ i : Nat, i ≤ 8 ∧ iv = .int .i64 i ∧ Aside0 (BldF g g (Lib.byteCells ((([xa, xb, xc, xd, xe, xf, xg, xh] : List V).take i).flatMap wordB)) wr) ∧ Aside0 (Below w.heap.size w wr)) (fun iv _ => 8 - (intOf iv).toNat)
    case atStart => exact ⟨0, Nat.zero_le _, rfl, Hbl, Hbe⟩
    case round =>
      clear Hbl Hbe
      obtain ⟨i, hi, rfl, Hbl, Hbe⟩ := hrel
      by_cases hlt : i < 8
      · have hix := idxS ⟨xa, xb, xc, xd, xe, xf, xg, xh⟩ i hlt
        have hst := flat_step ⟨xa, xb, xc, xd, xe, xf, xg, xh⟩ i hlt
        obtain ⟨x, hx⟩ : ∃ x, (⟨xa, xb, xc, xd, xe, xf, xg, xh⟩ : S8).l.getD i 0 = x := ⟨_, rfl⟩
        rw [hx] at hst hix
        have Hst := Aside0.mk hst
        have hxl := x.isLt
        have i1 : (0 : Int) ≤ (i : Int) := by omega
        have i2 : (i : Int) < 8 := by omega
        clear hx hst
        have hlen : ((([xa, xb, xc, xd, xe, xf, xg, xh] : List V).take i).flatMap wordB).length ≤ 32 := by
          rw [flat_len, List.length_take]; omega
        have Hlen := Aside0.mk hlen
        clear hlen
        go_wp2_with fail
        refine (number_n x.toNat _ (by omega)).mono ?_
        rintro e1 w4 ⟨u, rfl, hu, hus, hb⟩
        have u4 : (4 : Int) ≤ (u.size : Int) := by omega
        have Hu := Aside0.mk hu
        have Hus := Aside0.mk hus
        have Hbl2 := Aside0.mk (BldF.below Hbl.out hb)
        have Hbe2 := Aside0.mk (Hbe.out.trans (hb.mono Hbe.out.size))
        clear hu hus hb
        have hex : (u.extract 4 u.size).data.toList = wordB x := by
          rw [Lib.extract_data, Hu.out, Hus.out, ← numB_tail]
          rfl
        have Hex := Aside0.mk hex
        have hes : (u.extract 4 u.size).size = 4 := by rw [ByteArray.size_extract, Hus.out]; omega
        have Hes := Aside0.mk hes
        clear hex hes
        go_wp2_with fail
        refine (bld_WriteString g g _ (u.extract 4 u.size) _ Hbl2.out (by rw [Lib.byteCells_length, Hes.out]; have := Hlen.out; omega) (Nat.le_of_lt (BldF.lt Hbl2.out))).mono ?_
        rintro e2 w5 ⟨rfl, hB1, hb1, _⟩
        have Hbl3 := Aside0.mk hB1
        have Hbe3 := Aside0.mk (Hbe2.out.trans (hb1.mono Hg.out))
        clear hB1 hb1 Hbl2 Hbe2
        go_wp2
        go_roundw
        case rel =>
          refine ⟨i + 1, by omega, by go_num, ⟨?_⟩, Hbe3⟩
          have h9 := Hbl3.out
          rw [Lib.strCells_eq, Hex.out, ← Lib.byteCells_append] at h9
          have h8 : (([xa, xb, xc, xd, xe, xf, xg, xh] : List V).take (i + 1)).flatMap wordB = (([xa, xb, xc, xd, xe, xf, xg, xh] : List V).take i).flatMap wordB ++ wordB x := Hst.out
          rw [h8]
          exact Or.inr h9
        case measure => simp [intOf]; omega
      · obtain rfl : i = 8 := by omega
        go_wp2_with fail
        refine (Try.Builder_String_any_f g g _ _ Hbl.out (Nat.le_of_lt (BldF.lt Hbl.out))).mono ?_
        rintro e2 w5 ⟨rfl, _, hb1⟩
        have Hbe3 := Aside0.mk (Hbe.out.trans (hb1.mono Hg.out))
        clear hb1
        go_wp2
        go_ret
        refine ⟨?_, Hbe3.out⟩
        have e9 : sumV msg = (([xa, xb, xc, xd, xe, xf, xg, xh] : List V).take 8).flatMap wordB := by
          unfold sumV outB
          rw [HX.out]; rfl
        rw [e9]
        rfl
end Go.Proofs.Ytehnpmkfgdmmmaa.Sha
/- Walks: mac's Sum; turned. -/
namespace Go.Proofs.Ytehnpmkfgdmmmaa.Sha
open Go Go.RowKit Go.Proofs.Ytehnpmkfgdmmmaa Go.Proofs.YtehnpmkfgdmmmaaW.PrintWords
set_option linter.unusedVariables false
set_option linter.unusedSimpArgs false

theorem hx_new {h : Nat} {w : World} (H : HB h first8 (List.replicate 64 0) 0 0 w) : HX h [] 0 w := ⟨_, _, _, H, absd_nil⟩
set_option maxHeartbeats 1000000 in
set_option maxRecDepth 100000 in
theorem mac_sum_any (s : ByteArray) (w : World) (hs : s.size ≤ 1152921504606846976) : Calls Try.prog 46 #[.string s] w fun e w' => e = .returned (.string ⟨(sumV s.data.toList).toArray⟩) ∧ Below w.heap.size w w' := by
  have Hs := Aside0.mk hs
  clear hs
  go_enter Try.func46, Try.ntmps46
  go_wp2_with fail
  refine (new_any _).mono ?_
  rintro e1 w1 ⟨h, rfl, hh, H1, hb1⟩
  have H1 := Aside0.mk (hx_new H1)
  have Hb1 := Aside0.mk hb1
  have Hh := Aside0.mk hh
  clear hb1 hh
  go_wp2_with fail
  refine (write_any h [] 0 s w1 H1.out (by have := Hs.out; omega) (by omega)).mono ?_
  rintro e2 w2 ⟨rfl, h2, k2⟩
  rw [List.nil_append, Nat.zero_add] at h2
  have H2 := Aside0.mk (show HX h s.data.toList s.data.toList.length w2 by rw [Array.length_toList]; exact h2)
  have Hb2 := Aside0.mk (kb_below Hb1.out k2 Hh.out Hb1.out.size)
  clear h2 k2 H1
  go_wp2_with fail
  refine (sum_any h s.data.toList w2 H2.out (by rw [Array.length_toList]; exact Hs.out)).mono ?_
  rintro e3 w3 ⟨rfl, hb3⟩
  have Hb3 := Aside0.mk (Hb2.out.trans (hb3.mono Hb2.out.size))
  clear hb3
  go_wp2
  go_ret
  exact ⟨rfl, Hb3.out⟩

/-! ### turned -/
def key64 (key : List UInt8) : List UInt8 := key ++ List.replicate (64 - key.length) 0
def turnedL (key : List UInt8) (by_ : UInt8) : List UInt8 := (key64 key).map (· ^^^ by_)
def turnedTo (key : List UInt8) (by_ : UInt8) (i : Nat) : List UInt8 := ((key64 key).take i).map (· ^^^ by_) ++ (key64 key).drop i
theorem key64_len (key : List UInt8) (h : key.length ≤ 64) : (key64 key).length = 64 := by
  unfold key64
  rw [List.length_append, List.length_replicate]; omega
theorem turnedTo_len (key : List UInt8) (by_ : UInt8) (i : Nat) (h : key.length ≤ 64) : (turnedTo key by_ i).length = 64 := by
  unfold turnedTo
  rw [List.length_append, List.length_map, List.length_take, List.length_drop, key64_len key h]; omega
theorem turnedTo_zero (key : List UInt8) (by_ : UInt8) : turnedTo key by_ 0 = key64 key := rfl
theorem turnedTo_full (key : List UInt8) (by_ : UInt8) (h : key.length ≤ 64) : turnedTo key by_ 64 = turnedL key by_ := by
  unfold turnedTo turnedL
  rw [List.take_of_length_le (by rw [key64_len key h]; omega), List.drop_eq_nil_of_le (by rw [key64_len key h]; omega), List.append_nil]
theorem turnedTo_at (key : List UInt8) (by_ : UInt8) (i : Nat) (h : key.length ≤ 64) (hi : i < 64) : (turnedTo key by_ i).getD i 0 = (key64 key).getD i 0 := by
  have e : (((key64 key).take i).map (· ^^^ by_)).length = i := by rw [List.length_map, List.length_take, key64_len key h]; omega
  unfold turnedTo
  rw [List.getD_eq_getElem?_getD, List.getElem?_append_right (by omega), e, Nat.sub_self, List.getElem?_drop, Nat.add_zero, List.getD_eq_getElem?_getD]
theorem turnedTo_put (key : List UInt8) (by_ : UInt8) (i : Nat) (h : key.length ≤ 64) (hi : i < 64) : (turnedTo key by_ i).set i ((key64 key).getD i 0 ^^^ by_) = turnedTo key by_ (i + 1) := by
  have hl := key64_len key h
  have e : (((key64 key).take i).map (· ^^^ by_)).length = i := by rw [List.length_map, List.length_take, hl]; omega
  unfold turnedTo
  rw [List.set_append_right _ _ (by omega), e, Nat.sub_self, List.take_succ_eq_append_getElem (by omega), List.map_append, List.append_assoc]
  congr 1
  rw [List.drop_eq_getElem_cons (by omega), List.set_cons_zero, List.getD_eq_getElem?_getD, List.getElem?_eq_getElem (by omega)]
  rfl
theorem wpList_copy_rowstr {P : Program} {ops : Array Oper} {rest : List Oper} {o : Oper} {a : Act} {w : World} {Q : Exit → Act → World → Prop}
    (hg : o.guard = none) (d x : Operand) (dT sT : TypeId) (hop : o.op = Op.call { callee := Callee.builtin Builtin.copy, args := #[d, x], argTypes := #[dT, sT] })
    (elem : TypeId) (hu : P.underlying dT = some (.slice elem)) (hz : (P.info? elem).map (·.size) = some 1)
    (b off dLen dCap : Nat) (hd : a.eval d = .slice (some ⟨b, off, none⟩) dLen dCap) (t : ByteArray) (hx : a.eval x = .string t)
    (cur : Array Value) (ty : TypeId) (hrow : w.heap[b]? = some (.cells cur ty (0, 0))) (hk : t.size ≤ dLen) (hfit : off + t.size ≤ cur.size)
    (h : wpList P ops Q rest (a.put o.dst (goInt t.size)) (w.setRow b (cur.toList.take off ++ Lib.byteCells t.data.toList ++ cur.toList.drop (off + t.size)).toArray)) :
    wpList P ops Q (o :: rest) a w := by
  refine wpList_plain hg fun K hK => ?_
  have hrun := Lib.run_copy_row_string (P := P) w dT sT o.type elem b off dLen dCap t cur ty hu hz hrow hk hfit
  unfold Oper.wp
  simp only [execOp, hop, resolve, invoke, builtin, List.map_toArray, List.map_cons, List.map_nil, hd, hx, Sem.run_bind, Sem.run_pure, Result.andThen_ok, hrun]
  exact hK _ _ h
def z64 : List UInt8 := List.replicate 64 0
theorem key64_row (key : ByteArray) (hk : key.size ≤ 64) : ((bcs z64).toList.take 0 ++ Lib.byteCells key.data.toList ++ (bcs z64).toList.drop (0 + key.size)).toArray = bcs (key64 key.data.toList) := by
  have e : key.data.toList.length = key.size := Array.length_toList
  unfold key64 bcs z64
  rw [e]
  generalize 64 = N at *
  apply Array.ext'
  simp [Lib.byteCells]
theorem bv8 (x : UInt8) : BitVec.ofInt 8 (x.toNat : Int) = x.toBitVec := by
  apply BitVec.eq_of_toInt_eq
  rw [BitVec.toInt_ofInt, BitVec.toInt_eq_toNat_bmod]
  rfl
theorem xor8 (x y : UInt8) : Go.bits .xor .u8 (x.toNat : Int) (y.toNat : Int) = ((x ^^^ y).toNat : Int) := by
  show IntKind.u8.wrap ((BitVec.ofInt 8 (x.toNat : Int) ^^^ BitVec.ofInt 8 (y.toNat : Int)).toNat : Int) = _
  rw [bv8, bv8]
  show ((x ^^^ y).toNat : Int) % 256 = _
  have := (x ^^^ y).toNat_lt
  omega
set_option maxHeartbeats 1000000 in
set_option maxRecDepth 100000 in
theorem turned_any (key : ByteArray) (c : UInt8) (w : World) (hk : key.size ≤ 64) : Calls Try.prog 47 #[.string key, .int .u8 (c.toNat : Int)] w fun e w' => e = .returned (.string ⟨(turnedL key.data.toList c).toArray⟩) ∧ Below w.heap.size w w' := by
  have hkl : key.data.toList.length ≤ 64 := by rw [Array.length_toList]; exact hk
  have Hk := Aside0.mk hk
  have Hkl := Aside0.mk hkl
  clear hkl
  go_enter Try.func47, Try.ntmps47
  have hmk : ∀ wx, (Instr.makeSlice 37 (.int .i64 64) (.int .i64 64)).run Try.prog wx = .ok (.slice (some ⟨wx.heap.size, 0, none⟩) 64 64) (wx.alloc (.cells (bcs z64) 5)) := fun wx => by kernel_rfl
  have Hz := Aside0.mk (show key.size ≤ (bcs z64).size by rw [bcs_size]; exact hk)
  have HB := Aside0.mk ((Below.refl w.heap.size w).alloc (Nat.le_refl _) (.cells (bcs z64) 5))
  go_upto_region 3 with ((refine wpList_copy_rowstr rfl (.tmp 8) (.tmp 9) 37 9 rfl 5 Try.underlying37 (by kernel_rfl) w.heap.size 0 64 64 rfl key rfl _ _ (heap_alloc_new w _) Hk.out (by rw [Nat.zero_add]; exact Hz.out) ?_))
  have Hb := Aside0.mk (heap_alloc_new w (.cells (bcs z64) 5))
  generalize w.alloc (.cells (bcs z64) 5) = w1 at Hb HB ⊢
  rw [key64_row key Hk.out]
  have Hb2 := Aside0.mk (setRow_heap w1 w.heap.size _ (bcs (key64 key.data.toList)) _ _ Hb.out)
  have HB2 := Aside0.mk (store_below HB.out w.heap.size (bcs (key64 key.data.toList)) (Nat.le_refl _))
  generalize w1.setRow w.heap.size (bcs (key64 key.data.toList)) = w2 at Hb2 HB2 ⊢
  rw [← turnedTo_zero _ c] at Hb2
  clear Hb HB
  go_wp2
  go_loopw [13] (fun iv wr => ∃ i : Nat, i ≤ 64 ∧ iv = .int .i64 i ∧ Aside0 (wr.heap[w.heap.size]? = some (.cells (bcs (turnedTo key.data.toList c i)) 5 (0, 0))) ∧ Aside0 (Below w.heap.size w wr)) (fun iv _ => 64 - (intOf iv).toNat)
  case atStart => exact ⟨0, Nat.zero_le _, rfl, Hb2, HB2⟩
  case round =>
    clear Hb2 HB2
    obtain ⟨i, hi, rfl, Hb, HB⟩ := hrel
    by_cases hlt : i < 64
    · have hc := row_of_bcs _ _ _ _ Hb.out i (by rw [turnedTo_len _ _ _ Hkl.out]; exact hlt)
      have hc1 := hc.1
      have hc2 := hc.2
      clear hc
      rw [turnedTo_at _ _ _ Hkl.out hlt] at hc1
      have hp := turnedTo_put key.data.toList c i Hkl.out hlt
      generalize (key64 key.data.toList).getD i 0 = x at *
      have hx := xor8 x c
      have Hp := Aside0.mk hp
      have Hx := Aside0.mk hx
      clear hp hx
      have i1 : (0 : Int) ≤ (i : Int) := by omega
      have i2 : (i : Int) < 64 := by omega
      go_wp2
      go_roundw
      case rel =>
        refine ⟨i + 1, by omega, by go_num, ⟨?_⟩, ⟨HB.out.setCell (p := ⟨w.heap.size, i, none⟩) (Nat.le_refl _) _⟩⟩
        rw [← Hp.out, ← bcs_set, ← Hx.out]
        exact heap_setCell_same _ _ _ _ _ _ Hb.out
      case measure => simp [intOf]; omega
    · obtain rfl : i = 64 := by omega
      have hcv := (row_of_bcs _ _ _ _ Hb.out).text 64 64 (turnedTo_len _ _ _ Hkl.out)
      rw [turnedTo_full _ _ Hkl.out] at hcv
      go_wp2
      go_ret
      exact ⟨rfl, HB.out⟩
end Go.Proofs.Ytehnpmkfgdmmmaa.Sha
/- Walks: bytes as letters, so many bits each (mac.groups). -/
namespace Go.Proofs.Ytehnpmkfgdmmmaa
open Go Go.RowKit
set_option linter.unusedVariables false
set_option linter.unusedSimpArgs false

set_option maxHeartbeats 2000000 in
set_option maxRecDepth 100000 in
theorem bld_WriteByte (B b : Nat) (bs : List Value) (c : Int) (w : World) (h : BldF B b bs w) (hlen : bs.length + 1 ≤ 140737488355328) (hBw : B ≤ w.heap.size) :
    Calls Try.prog 54 #[.pointer (some ⟨b, 0, none⟩), .int .u8 c] w fun e w' => e = .returned .nilIface ∧ BldAt B b (bs ++ [.int .u8 c]) w' ∧ Below B w w' ∧ Lib.OthersKept 5 (some b) w w' := by
  obtain ⟨i0, hi, hz0, hz1, hz2⟩ := info_parts infoByte
  go_enter Try.func54, Try.ntmps54
  go_wp2_with (go_at_call 65; refine (bld_copyCheck B b bs _ h).mono ?_)
  rintro e w1 ⟨rfl, h1, hb1, hk1⟩
  obtain ⟨hB, v, hbk, hown, hne⟩ := h1
  have c0 : w1.cell? ⟨b, 0, none⟩ = some (.pointer (some ⟨b, 0, none⟩)) := by rw [Lib.cell_of_heap hbk]; rfl
  have c1 : w1.cell? ⟨b, 1, none⟩ = some v := by rw [Lib.cell_of_heap hbk]; rfl
  go_wp2_with (at_builtin; refine wpList_append_ownF _ rfl _ _ 37 rfl B 5 i0 (.int .u8 0) 1 1 Try.underlying37 hi hz0 hz1 hz2 rfl (by decide) _ _ _ rfl (hown.alloc _) ⟨w1.heap.size, 0, none⟩ 1 1 [.int .u8 c] rfl rfl ?c1 ?c2 ?c3 ?c4 ?c5 ?_)
  case c1 =>
    intro j u hj
    match j, hj with
    | 0, hj => simp at hj; subst hj; simp [Addr.add]
  case c2 => intro u hu; simp at hu; subst hu; rfl
  case c3 => unfold maxLen; omega
  case c4 => omega
  case c5 => have := hb1.size; simp; omega
  intro v' w2 hown' hgrow _
  have hlt : b < w1.heap.size := by
    rcases Nat.lt_or_ge b w1.heap.size with h' | h'
    · exact h'
    · simp [Array.getElem?_eq_none h'] at hbk
  have hb2 : w2.heap[b]? = some (.cells #[.pointer (some ⟨b, 0, none⟩), v] 76 (0, 0)) := by
    rw [hgrow.block b (by simp; omega) (fun e => hne e.symm), Lib.alloc_old w1 _ b hlt]
    exact hbk
  have d0 : w2.cell? ⟨b, 0, none⟩ = some (.pointer (some ⟨b, 0, none⟩)) := by rw [Lib.cell_of_heap hb2]; rfl
  have d1 : w2.cell? ⟨b, 1, none⟩ = some v := by rw [Lib.cell_of_heap hb2]; rfl
  have f1 : w2.frozen? ⟨b, 1, none⟩ = false := Lib.frozen_of_heap hb2 1
  obtain ⟨g, cap, rfl⟩ : ∃ g cap, v' = .slice (some ⟨g, 0, none⟩) (bs.length + 1) cap := by
    rcases hown'.2 with ⟨_, h0⟩ | ⟨g, cap, cur, fz, hv, _⟩
    · omega
    · exact ⟨g, cap, hv⟩
  go_wp2
  go_ret
  refine ⟨rfl, ?_, ?_, ((hk1.alloc _).grown hgrow (Lib.ownsRowF_kind (hown.alloc _))).setCell ⟨b, 1, none⟩ rfl _⟩
  · exact Lib.BuilderAtF.put (T := 76) (e := 5) hB hb2 (bs' := bs ++ [.int .u8 c]) (by simpa using hown') (by decide)
  · exact ((hb1.alloc (by have := hb1.size; omega) _).grown hgrow (by have := hb1.size; simp; omega) (fun k hk => (hown.lt k hk).1)).setCell (p := ⟨b, 1, none⟩) hB _

namespace Sha
open Go.Proofs.YtehnpmkfgdmmmaaW.PrintWords
/-- The numbers of the letters. -/
def encI (W : Nat) (l : List UInt8) (now have_ : Nat) : List Nat :=
  if 0 < W ∧ W ≤ have_ then now / 2 ^ (have_ - W) :: encI W l (now % 2 ^ (have_ - W)) (have_ - W)
  else match l with
    | [] => if 0 < have_ then [now * 2 ^ (W - have_)] else []
    | c :: l => encI W l (now * 256 + c.toNat) (have_ + 8)
termination_by (l.length, have_)
decreasing_by
  · apply Prod.Lex.right; omega
  · apply Prod.Lex.left; simp
theorem encI_more {W : Nat} {l : List UInt8} {now have_ : Nat} (h0 : 0 < W) (h : W ≤ have_) : encI W l now have_ = now / 2 ^ (have_ - W) :: encI W l (now % 2 ^ (have_ - W)) (have_ - W) := by
  rw [encI.eq_def, if_pos ⟨h0, h⟩]
theorem encI_next {W : Nat} {c : UInt8} {l : List UInt8} {now have_ : Nat} (h : have_ < W) : encI W (c :: l) now have_ = encI W l (now * 256 + c.toNat) (have_ + 8) := by
  rw [encI.eq_def, if_neg (by omega)]
theorem encI_end {W : Nat} {now have_ : Nat} (h : have_ < W) : encI W [] now have_ = if 0 < have_ then [now * 2 ^ (W - have_)] else [] := by
  rw [encI.eq_def, if_neg (by omega)]
theorem bits_nat_and (a b : Nat) (ha : a < 9223372036854775808) (hb : b < 9223372036854775808) : Go.bits .and .i64 (a : Int) (b : Int) = ((a &&& b : Nat) : Int) := by
  show IntKind.i64.wrap ((BitVec.ofInt 64 (a : Int) &&& BitVec.ofInt 64 (b : Int)).toNat : Int) = _
  rw [BitVec.ofInt_natCast, BitVec.ofInt_natCast, BitVec.toNat_and, BitVec.toNat_ofNat, BitVec.toNat_ofNat, Nat.mod_eq_of_lt (by omega), Nat.mod_eq_of_lt (by omega)]
  have h : a &&& b ≤ a := Nat.and_le_left
  exact IntWalk.i64_in _ (by omega)
theorem bits_nat_or (a b : Nat) (ha : a < 4611686018427387904) (hb : b < 4611686018427387904) (e : a ||| b = a + b) : Go.bits .or .i64 (a : Int) (b : Int) = ((a + b : Nat) : Int) := by
  show IntKind.i64.wrap ((BitVec.ofInt 64 (a : Int) ||| BitVec.ofInt 64 (b : Int)).toNat : Int) = _
  rw [BitVec.ofInt_natCast, BitVec.ofInt_natCast, BitVec.toNat_or, BitVec.toNat_ofNat, BitVec.toNat_ofNat, Nat.mod_eq_of_lt (by omega), Nat.mod_eq_of_lt (by omega), e]
  exact IntWalk.i64_in _ (by omega)
theorem or_byte (x c : Nat) (hx : x < 64) (hc : c < 256) : Go.bits .or .i64 ((x : Int) * 256) (c : Int) = ((x * 256 + c : Nat) : Int) := by
  rw [show (x : Int) * 256 = ((x * 256 : Nat) : Int) by rw [Int.natCast_mul]; rfl]
  refine bits_nat_or _ _ (by omega) (by omega) ?_
  have := Nat.shiftLeft_add_eq_or_of_lt (i := 8) (a := x) (b := c) (by omega)
  rw [Nat.shiftLeft_eq] at this
  exact this.symm
theorem and_low (n k : Nat) (hn : n < 16384) (hk : k ≤ 13) : Go.bits .and .i64 (n : Int) (wrap64 (wrap64 (2 ^ k) - 1)) = ((n % 2 ^ k : Nat) : Int) := by
  have h2 : (2 : Nat) ^ k ≤ 2 ^ 13 := Nat.pow_le_pow_right (by omega) hk
  have h3 : 0 < (2 : Nat) ^ k := Nat.pow_pos (by omega)
  have e : (2 : Int) ^ k = ((2 ^ k : Nat) : Int) := by rw [Int.natCast_pow]; rfl
  have e2 : wrap64 (wrap64 (2 ^ k) - 1) = ((2 ^ k - 1 : Nat) : Int) := by
    rw [e]
    generalize (2 : Nat) ^ k = m at *
    unfold wrap64
    omega
  rw [e2, bits_nat_and _ _ (by omega) (by omega), Nat.and_two_pow_sub_one_eq_mod]
def letB (al : ByteArray) (l : List Nat) : List UInt8 := l.map fun x => al.data.toList.getD x 0
theorem letB_snoc (al : ByteArray) (o : List Nat) (q : Nat) (h : q < al.size) : Lib.byteCells (letB al (o ++ [q])) = Lib.byteCells (letB al o) ++ [.int .u8 (al[q].toNat : Int)] := by
  unfold letB
  rw [List.map_append, Lib.byteCells_append]
  congr 1
  simp only [List.map_cons, List.map_nil, Lib.byteCells]
  rw [List.getD_eq_getElem?_getD, Array.getElem?_toList, Array.getElem?_eq_getElem (show q < al.data.size from h)]
  rfl
set_option maxHeartbeats 1000000 in
set_option maxRecDepth 100000 in
theorem groups_any (s : ByteArray) (W : Nat) (al : ByteArray) (w : World) (hsm : s.size ≤ 9223372036854775807) (hs : (encI W s.data.toList 0 0).length ≤ 140737488355328) (hW : W = 4 ∨ W = 6) (ha : al.size = 2 ^ W) :
    Calls Try.prog 45 #[.string s, .int .i64 (W : Int), .string al] w fun e w' => e = .returned (.string ⟨(letB al (encI W s.data.toList 0 0)).toArray⟩) ∧ Below w.heap.size w w' := by
  have Hs := Aside0.mk hs
  have Ha := Aside0.mk ha
  have HW := Aside0.mk hW
  have w4 : (4 : Int) ≤ (W : Int) := by omega
  have w6 : (W : Int) ≤ 6 := by omega
  clear hs ha hW
  have Hbl := Aside0.mk (fresh_builder w)
  have Hbe := Aside0.mk ((Below.refl w.heap.size w).alloc (Nat.le_refl _) (.cells #[.pointer none, .slice none 0 0] 76))
  go_enter Try.func45, Try.ntmps45
  go_wp2
  go_loopw [8, 9, 13] (fun nv hv iv wr => ∃ i now have_ : Nat, ∃ o : List Nat, i ≤ s.size ∧ iv = .int .i64 i ∧ nv = .int .i64 now ∧ hv = .int .i64 have_ ∧ have_ < W ∧ now < 2 ^ have_ ∧ Aside0 (encI W s.data.toList 0 0 = o ++ encI W (s.data.toList.drop i) now have_) ∧ Aside0 (BldF w.heap.size w.heap.size (Lib.byteCells (letB al o)) wr) ∧ Aside0 (Below w.heap.size w wr)) (fun _ _ iv _ => s.size - (intOf iv).toNat)
  case atStart => exact ⟨0, 0, 0, [], Nat.zero_le _, rfl, rfl, rfl, by have := HW.out; omega, by omega, ⟨rfl⟩, Hbl, Hbe⟩
  case round =>
    clear Hbl Hbe
    obtain ⟨i, now, have_, o, hi, rfl, rfl, rfl, hh, hn, He, Hbl, Hbe⟩ := hrel
    by_cases hlt : i < s.size
    · have hnb : now < 64 := Nat.lt_of_lt_of_le hn (Nat.pow_le_pow_right (n := 2) (j := 6) (by omega) (by omega))
      have hin : (i : Int) < (s.size : Int) := by omega
      have hdr : s.data.toList.drop i = s[i] :: s.data.toList.drop (i + 1) := by
        rw [List.drop_eq_getElem_cons (by rw [Array.length_toList]; exact hlt)]
        rfl
      have hc := s[i].toNat_lt
      rw [hdr] at He
      obtain ⟨cn, hcn⟩ : ∃ cn, s[i].toNat = cn := ⟨_, rfl⟩
      obtain ⟨v, hv⟩ : ∃ v, now * 256 + cn = v := ⟨_, rfl⟩
      rw [hcn] at hc
      have hor : Go.bits .or .i64 ((now : Int) * 256) (cn : Int) = (v : Int) := by
        rw [← hv]
        exact or_byte now cn (by omega) hc
      have He2 := Aside0.mk (He.out.trans (by rw [encI_next hh, hcn, hv]))
      have hvb : v < 2 ^ (have_ + 8) := by
        rw [Nat.pow_add]; omega
      have hvc : v < 16384 := by omega
      have c1 : wrap64 (s[i].toNat : Int) = (cn : Int) := by
        rw [hcn]; unfold wrap64; omega
      clear hcn hdr hv hn He
      go_upto_region 8 with fail
      obtain ⟨wo, rfl⟩ : ∃ wo : World, wo = wr := ⟨_, rfl⟩
      go_loopw [8, 9] (fun nv hv wr => ∃ n2 h2 : Nat, ∃ o2 : List Nat, nv = .int .i64 n2 ∧ hv = .int .i64 h2 ∧ h2 ≤ 13 ∧ n2 < 16384 ∧ Aside0 (n2 < 2 ^ h2) ∧ Aside0 (encI W s.data.toList 0 0 = o2 ++ encI W (s.data.toList.drop (i + 1)) n2 h2) ∧ Aside0 (BldF w.heap.size w.heap.size (Lib.byteCells (letB al o2)) wr) ∧ Aside0 (Below w.heap.size w wr)) (fun _ hv _ => (intOf hv).toNat)
      case atStart => exact ⟨v, have_ + 8, o, rfl, by go_num, by omega, hvc, ⟨hvb⟩, He2, Hbl, Hbe⟩
      case round =>
        clear Hbl Hbe He2 hvb hvc hor c1 hc
        obtain ⟨n2, h2, o2, rfl, rfl, hh2, hn2, Hn2, He3, Hbl, Hbe⟩ := hrel
        clear hnb
        by_cases hge : W ≤ h2
        · have g1 : (W : Int) ≤ (h2 : Int) := by omega
          have g2 : (h2 : Int) ≤ 13 := by omega
          obtain ⟨q, hq⟩ : ∃ q, n2 / 2 ^ (h2 - W) = q := ⟨_, rfl⟩
          have hqi : (n2 : Int) / 2 ^ (h2 - W) = (q : Int) := by
            rw [← hq, Int.natCast_ediv, Int.natCast_pow]; rfl
          have hqs : q < al.size := by
            rw [← hq, Ha.out]
            refine Nat.div_lt_of_lt_mul ?_
            rw [← Nat.pow_add, Nat.sub_add_cancel hge]
            exact Hn2.out
          have hqsi : (q : Int) < (al.size : Int) := by omega
          have hlb : (Lib.byteCells (letB al o2)).length + 1 ≤ 140737488355328 := by
            rw [Lib.byteCells_length]
            unfold letB
            rw [List.length_map]
            have h1 := Hs.out
            rw [He3.out, encI_more (by omega) hge, List.length_append, List.length_cons] at h1
            omega
          have Hq := Aside0.mk hq
          have Hlb := Aside0.mk hlb
          clear hq hlb
          go_wp2_with fail
          refine (bld_WriteByte w.heap.size w.heap.size _ _ _ Hbl.out Hlb.out Hbe.out.size).mono ?_
          rintro e1 w2 ⟨rfl, hB1, hb1, _⟩
          have Hbl2 := Aside0.mk hB1
          have Hbe2 := Aside0.mk (Hbe.out.trans hb1)
          clear hB1 hb1
          have hr := and_low n2 (h2 - W) hn2 (by omega)
          have Hr := Aside0.mk hr
          clear hr
          go_wp2
          have hrl : n2 % 2 ^ (h2 - W) < 2 ^ (h2 - W) := Nat.mod_lt _ (Nat.pow_pos (by omega))
          refine ⟨⟨n2 % 2 ^ (h2 - W), h2 - W, o2 ++ [q], by rw [Hr.out], by go_num, by omega, Nat.lt_of_le_of_lt (Nat.mod_le _ _) hn2, ⟨hrl⟩, ⟨?_⟩, ⟨Or.inr ?_⟩, Hbe2⟩, ?_⟩
          · rw [He3.out, encI_more (by omega) hge, Hq.out, List.append_assoc]; rfl
          · have h9 := Hbl2.out
            rw [letB_snoc al o2 q hqs]
            exact h9
          · simp [intOf]; omega
        · have hgt : ¬ ((W : Int) ≤ (h2 : Int)) := by omega
          go_wp2
          go_roundw
          case rel => exact ⟨i + 1, n2, h2, o2, by omega, by go_num, rfl, rfl, by omega, Hn2.out, He3, Hbl, Hbe⟩
          case measure => simp [intOf]; omega
    · obtain rfl : i = s.size := by omega
      have hE := He.out
      rw [List.drop_eq_nil_of_le (by rw [Array.length_toList]; exact Nat.le_refl _), encI_end hh] at hE
      have HE := Aside0.mk hE
      clear hE He
      by_cases hpos : 0 < have_
      · have hnb : now < 64 := Nat.lt_of_lt_of_le hn (Nat.pow_le_pow_right (n := 2) (j := 6) (by omega) (by omega))
        have hE := HE.out
        rw [if_pos hpos] at hE
        have HE := Aside0.mk hE
        clear hE
        obtain ⟨q, hq⟩ : ∃ q, now * 2 ^ (W - have_) = q := ⟨_, rfl⟩
        have hqs : q < al.size := by
          rw [← hq, Ha.out]
          refine Nat.lt_of_lt_of_eq (Nat.mul_lt_mul_of_pos_right hn (Nat.pow_pos (by omega))) ?_
          rw [← Nat.pow_add]
          congr 1
          omega
        have hq6 : q < 64 := by
          have := HW.out
          rw [Ha.out] at hqs
          rcases this with rfl | rfl <;> omega
        have hwq : wrap64 ((now : Int) * 2 ^ (W - have_)) = (q : Int) := by
          rw [show (now : Int) * 2 ^ (W - have_) = (q : Int) by rw [← hq, Int.natCast_mul, Int.natCast_pow]; rfl]
          unfold wrap64; omega
        have hlb : (Lib.byteCells (letB al o)).length + 1 ≤ 140737488355328 := by
          rw [Lib.byteCells_length]
          unfold letB
          rw [List.length_map]
          have h1 := Hs.out
          rw [HE.out, List.length_append] at h1
          exact h1
        have Hlb := Aside0.mk hlb
        clear hlb
        have hqsi : (q : Int) < (al.size : Int) := by omega
        have g1 : (have_ : Int) < (W : Int) := by omega
        have g2 : (0 : Int) < (have_ : Int) := by omega
        have Hq := Aside0.mk hq
        clear hq hn
        go_wp2_with fail
        refine (bld_WriteByte w.heap.size w.heap.size _ _ _ Hbl.out Hlb.out Hbe.out.size).mono ?_
        rintro e1 w2 ⟨rfl, hB1, hb1, _⟩
        have Hbl2 := Aside0.mk (show BldF w.heap.size w.heap.size (Lib.byteCells (letB al (o ++ [q]))) w2 by rw [letB_snoc al o q hqs]; exact Or.inr hB1)
        have Hbe2 := Aside0.mk (Hbe.out.trans hb1)
        clear hB1 hb1
        go_wp2_with fail
        refine (Try.Builder_String_any_f w.heap.size w.heap.size _ _ Hbl2.out Hbe2.out.size).mono ?_
        rintro e2 w5 ⟨rfl, _, hb1⟩
        have Hbe3 := Aside0.mk (Hbe2.out.trans hb1)
        clear hb1
        go_wp2
        go_ret
        refine ⟨?_, Hbe3.out⟩
        rw [HE.out, Hq.out]
        rfl
      · obtain rfl : have_ = 0 := by omega
        have hE := HE.out
        rw [if_neg (by omega), List.append_nil] at hE
        have HE := Aside0.mk hE
        clear hE
        go_wp2_with fail
        refine (Try.Builder_String_any_f w.heap.size w.heap.size _ _ Hbl.out Hbe.out.size).mono ?_
        rintro e2 w5 ⟨rfl, _, hb1⟩
        have Hbe3 := Aside0.mk (Hbe.out.trans hb1)
        clear hb1
        go_wp2
        go_ret
        refine ⟨?_, Hbe3.out⟩
        rw [HE.out]
        rfl
end Sha
end Go.Proofs.Ytehnpmkfgdmmmaa
/- Walks: letters as bytes (mac.ungrouped). -/
namespace Go.Proofs.Ytehnpmkfgdmmmaa.Sha
open Go Go.RowKit Go.Proofs.Ytehnpmkfgdmmmaa Go.Proofs.YtehnpmkfgdmmmaaW.PrintWords
set_option linter.unusedVariables false
set_option linter.unusedSimpArgs false

/-- What letters tell. -/
def decG (W : Nat) (al : List UInt8) : List UInt8 → Nat → Nat → Option (List UInt8)
  | [], now, have_ => if W ≤ have_ ∨ now ≠ 0 then none else some []
  | c :: l, now, have_ =>
    if Lib.indexByte al c < 0 then none
    else if 8 ≤ have_ + W then (decG W al l ((now * 2 ^ W + (Lib.indexByte al c).toNat) % 2 ^ (have_ + W - 8)) (have_ + W - 8)).map (b8 ((now * 2 ^ W + (Lib.indexByte al c).toNat) / 2 ^ (have_ + W - 8)) :: ·)
    else decG W al l (now * 2 ^ W + (Lib.indexByte al c).toNat) (have_ + W)
def decRes (r : Option (List UInt8)) : ByteArray × Bool := match r with
  | some b => (⟨b.toArray⟩, true)
  | none => (⟨#[]⟩, false)
def RetDec (r : Option (List UInt8)) (e : Ending) : Prop := e = .returned (.tuple #[.string (decRes r).1, .bool (decRes r).2])
theorem decG_nil (W : Nat) (al : List UInt8) (now have_ : Nat) : decG W al [] now have_ = if W ≤ have_ ∨ now ≠ 0 then none else some [] := rfl
theorem decG_no {W : Nat} {al : List UInt8} {c : UInt8} (l : List UInt8) (now have_ : Nat) (h : Lib.indexByte al c < 0) : decG W al (c :: l) now have_ = none := by
  rw [decG, if_pos h]
theorem decG_out {W : Nat} {al : List UInt8} {c : UInt8} {k v h2 : Nat} (l : List UInt8) (now have_ : Nat) (h : Lib.indexByte al c = (k : Int)) (h8 : 8 ≤ have_ + W) (hv : now * 2 ^ W + k = v) (hh : have_ + W - 8 = h2) : decG W al (c :: l) now have_ = (decG W al l (v % 2 ^ h2) h2).map (b8 (v / 2 ^ h2) :: ·) := by
  rw [decG, if_neg (by omega), if_pos h8, h, Int.toNat_natCast, hv, hh]
theorem decG_on {W : Nat} {al : List UInt8} {c : UInt8} {k v : Nat} (l : List UInt8) (now have_ : Nat) (h : Lib.indexByte al c = (k : Int)) (h8 : ¬ 8 ≤ have_ + W) (hv : now * 2 ^ W + k = v) : decG W al (c :: l) now have_ = decG W al l v (have_ + W) := by
  rw [decG, if_neg (by omega), if_neg h8, h, Int.toNat_natCast, hv]
theorem indexByte_lt : ∀ (l : List UInt8) (c : UInt8), Lib.indexByte l c < (l.length : Int)
  | [], c => by show (-1 : Int) < 0; omega
  | b :: l, c => by
    have := indexByte_lt l c
    unfold Lib.indexByte
    rw [List.length_cons]
    split
    · omega
    · split <;> omega
theorem or_low (a k W : Nat) (ha : a < 128) (hk : k < 2 ^ W) (hW : W ≤ 6) : Go.bits .or .i64 (wrap64 ((a : Int) * 2 ^ W)) (k : Int) = ((a * 2 ^ W + k : Nat) : Int) := by
  have h2 : (2 : Nat) ^ W ≤ 2 ^ 6 := Nat.pow_le_pow_right (by omega) hW
  have h3 : a * 2 ^ W ≤ 128 * 64 := Nat.mul_le_mul (by omega) h2
  have e : (a : Int) * 2 ^ W = ((a * 2 ^ W : Nat) : Int) := by rw [Int.natCast_mul, Int.natCast_pow]; rfl
  have e2 : wrap64 ((a : Int) * 2 ^ W) = ((a * 2 ^ W : Nat) : Int) := by
    rw [e]
    generalize a * 2 ^ W = m at *
    unfold wrap64
    omega
  rw [e2]
  refine bits_nat_or _ _ (by omega) (by omega) ?_
  have := Nat.shiftLeft_add_eq_or_of_lt (i := W) (a := a) (b := k) hk
  rw [Nat.shiftLeft_eq] at this
  exact this.symm
theorem bytes_snoc (o : List UInt8) (m : Nat) (x : Int) (h : x = ((b8 m).toNat : Int)) : Lib.byteCells o ++ [.int .u8 x] = Lib.byteCells (o ++ [b8 m]) := by
  rw [Lib.byteCells_append, h]; rfl
theorem byte_of (v k : Nat) : ((v : Int) / 2 ^ k) % 256 = ((b8 (v / 2 ^ k)).toNat : Int) := by
  rw [b8_nat, show (v : Int) / 2 ^ k = ((v / 2 ^ k : Nat) : Int) by rw [Int.natCast_ediv, Int.natCast_pow]; rfl]
  generalize v / 2 ^ k = m
  omega
theorem map_snoc (o : List UInt8) (b : UInt8) (r : Option (List UInt8)) : (r.map (b :: ·)).map (o ++ ·) = r.map ((o ++ [b]) ++ ·) := by
  cases r <;> simp
set_option maxHeartbeats 1000000 in
set_option maxRecDepth 100000 in
theorem ungrouped_any (s : ByteArray) (W : Nat) (al : ByteArray) (w : World) (hs : s.size ≤ 140737488355328) (hW : W = 4 ∨ W = 6) (ha : al.size = 2 ^ W) :
    Calls Try.prog 51 #[.string s, .int .i64 (W : Int), .string al] w fun e w' => RetDec (decG W al.data.toList s.data.toList 0 0) e ∧ Below w.heap.size w w' := by
  have Hs := Aside0.mk hs
  have Ha := Aside0.mk ha
  have HW := Aside0.mk hW
  have w4 : (4 : Int) ≤ (W : Int) := by omega
  have w6 : (W : Int) ≤ 6 := by omega
  have hsm : s.size ≤ 9223372036854775807 := by omega
  clear hs ha hW
  have Hbl := Aside0.mk (fresh_builder w)
  have Hbe := Aside0.mk ((Below.refl w.heap.size w).alloc (Nat.le_refl _) (.cells #[.pointer none, .slice none 0 0] 76))
  go_enter Try.func51, Try.ntmps51
  go_wp2
  go_loopw [9, 10, 15] (fun nv hv iv wr => ∃ i now have_ : Nat, ∃ o : List UInt8, i ≤ s.size ∧ iv = .int .i64 i ∧ nv = .int .i64 now ∧ hv = .int .i64 have_ ∧ have_ < 8 ∧ now < 2 ^ have_ ∧ Aside0 (decG W al.data.toList s.data.toList 0 0 = (decG W al.data.toList (s.data.toList.drop i) now have_).map (o ++ ·)) ∧ Aside0 (o.length ≤ i) ∧ Aside0 (BldF w.heap.size w.heap.size (Lib.byteCells o) wr) ∧ Aside0 (Below w.heap.size w wr)) (fun _ _ iv _ => s.size - (intOf iv).toNat)
  case atStart => exact ⟨0, 0, 0, [], Nat.zero_le _, rfl, rfl, rfl, by omega, by omega, ⟨by simp⟩, ⟨Nat.zero_le _⟩, Hbl, Hbe⟩
  case round =>
    clear Hbl Hbe
    obtain ⟨i, now, have_, o, hi, rfl, rfl, rfl, hh, hn, He, Hl, Hbl, Hbe⟩ := hrel
    have hnb : now < 128 := Nat.lt_of_lt_of_le hn (Nat.pow_le_pow_right (n := 2) (j := 7) (by omega) (by omega))
    by_cases hlt : i < s.size
    · have hin : (i : Int) < (s.size : Int) := by omega
      have hdr : s.data.toList.drop i = s[i] :: s.data.toList.drop (i + 1) := by
        rw [List.drop_eq_getElem_cons (by rw [Array.length_toList]; exact hlt)]
        rfl
      rw [hdr] at He
      clear hdr
      have hix := Try.strings_IndexByte al (s[i].toNat : Int)
      rw [show ((s[i].toNat : Int)).toNat.toUInt8 = s[i] by rw [Int.toNat_natCast]; simp] at hix
      have hxl := indexByte_lt al.data.toList s[i]
      obtain ⟨x, hx⟩ : ∃ x, Lib.indexByte al.data.toList s[i] = x := ⟨_, rfl⟩
      rw [hx] at hix hxl
      have Hix := Aside0.mk hix
      have Hx := Aside0.mk hx
      have hxl2 : x < 64 ∧ x < ((2 ^ W : Nat) : Int) := by
        rw [Array.length_toList] at hxl
        have e : al.data.size = al.size := rfl
        have := Ha.out
        have h9 := HW.out
        rcases h9 with rfl | rfl <;> omega
      clear hix hx hxl
      by_cases hneg : x < 0
      · have hE := He.out
        rw [decG_no _ _ _ (by rw [Hx.out]; exact hneg)] at hE
        have HE := Aside0.mk hE
        clear hE
        go_wp2_with (go_at_call 63; refine (Hix.out _).mono ?_; rintro e1 w2 ⟨rfl, rfl⟩)
        go_ret2
        exact ⟨by unfold RetDec; rw [HE.out]; rfl, Hbe.out⟩
      · obtain ⟨k, hk⟩ : ∃ k : Nat, x = (k : Int) := ⟨x.toNat, by omega⟩
        subst hk
        have kl : k < 64 := by omega
        have kw : k < 2 ^ W := by have := hxl2.2; omega
        clear hxl2
        obtain ⟨v, hv⟩ : ∃ v, now * 2 ^ W + k = v := ⟨_, rfl⟩
        have hov : Go.bits .or .i64 (wrap64 ((now : Int) * 2 ^ W)) (k : Int) = (v : Int) := by
          rw [← hv]
          exact or_low now k W hnb kw (by omega)
        have hvb : v < 2 ^ (have_ + W) := by
          have h1 : now * 2 ^ W + 2 ^ W ≤ 2 ^ have_ * 2 ^ W := by
            rw [← Nat.succ_mul]
            exact Nat.mul_le_mul_right _ hn
          rw [Nat.pow_add, ← hv]
          exact Nat.lt_of_lt_of_le (Nat.add_lt_add_left kw _) h1
        have hvc : v < 16384 := Nat.lt_of_lt_of_le hvb (Nat.pow_le_pow_right (n := 2) (j := 14) (by omega) (by omega))
        have Hvb := Aside0.mk hvb
        by_cases h8 : 8 ≤ have_ + W
        · have hE := He.out
          rw [decG_out _ now have_ Hx.out h8 hv rfl, map_snoc] at hE
          have HE := Aside0.mk hE
          have hlb : (Lib.byteCells o).length + 1 ≤ 140737488355328 := by
            rw [Lib.byteCells_length]
            have := Hl.out
            have := Hs.out
            omega
          have Hlb := Aside0.mk hlb
          have h8i : (8 : Int) ≤ (have_ : Int) + (W : Int) := by omega
          have hq : ((v : Int) / 2 ^ (have_ + W - 8)) % 256 = ((b8 (v / 2 ^ (have_ + W - 8))).toNat : Int) := byte_of v _
          have Hq := Aside0.mk hq
          have hr := and_low v (have_ + W - 8) hvc (by omega)
          have Hr := Aside0.mk hr
          clear hE hlb hv hvb hq hr He
          go_wp2_with (go_at_call 63; refine (Hix.out _).mono ?_; rintro e1 w2 ⟨rfl, rfl⟩)
          refine (bld_WriteByte w.heap.size w.heap.size _ _ _ Hbl.out Hlb.out Hbe.out.size).mono ?_
          rintro e1 w3 ⟨rfl, hB1, hb1, _⟩
          rw [bytes_snoc _ _ _ Hq.out] at hB1
          have Hbl2 := Aside0.mk hB1
          have Hbe2 := Aside0.mk (Hbe.out.trans hb1)
          clear hB1 hb1
          go_wp2
          have hrl : v % 2 ^ (have_ + W - 8) < 2 ^ (have_ + W - 8) := Nat.mod_lt _ (Nat.pow_pos (by omega))
          refine ⟨⟨i + 1, v % 2 ^ (have_ + W - 8), have_ + W - 8, o ++ [b8 (v / 2 ^ (have_ + W - 8))], by omega, by go_num, by rw [Hr.out], by go_num, by omega, hrl, HE, ⟨?_⟩, ⟨Or.inr Hbl2.out⟩, Hbe2⟩, ?_⟩
          · have := Hl.out; rw [List.length_append]; simp; omega
          · simp [intOf]; omega
        · have hE := He.out
          rw [decG_on _ now have_ Hx.out h8 hv] at hE
          have HE := Aside0.mk hE
          have h8i : ¬ ((8 : Int) ≤ (have_ : Int) + (W : Int)) := by omega
          clear hE hv hvb He
          go_wp2_with (go_at_call 63; refine (Hix.out _).mono ?_; rintro e1 w2 ⟨rfl, rfl⟩)
          refine ⟨⟨i + 1, v, have_ + W, o, by omega, by go_num, rfl, by go_num, by omega, Hvb.out, HE, ⟨?_⟩, Hbl, Hbe⟩, ?_⟩
          · have := Hl.out; omega
          · simp [intOf]; omega
    · obtain rfl : i = s.size := by omega
      have hE := He.out
      rw [List.drop_eq_nil_of_le (by rw [Array.length_toList]; exact Nat.le_refl _), decG_nil] at hE
      have HE := Aside0.mk hE
      clear hE He
      by_cases hw : W ≤ have_
      · have hE := HE.out
        rw [if_pos (Or.inl hw)] at hE
        have HE := Aside0.mk hE
        have g1 : (W : Int) ≤ (have_ : Int) := by omega
        clear hE
        go_wp2
        go_ret2
        exact ⟨by unfold RetDec; rw [HE.out]; rfl, Hbe.out⟩
      · have g1 : (have_ : Int) < (W : Int) := by omega
        have g2 : ¬ ((W : Int) ≤ (have_ : Int)) := by omega
        by_cases hz : now = 0
        · subst hz
          have hE := HE.out
          rw [if_neg (by omega)] at hE
          have HE := Aside0.mk hE
          clear hE
          go_wp2_with fail
          refine (Try.Builder_String_any_f w.heap.size w.heap.size _ _ Hbl.out Hbe.out.size).mono ?_
          rintro e2 w5 ⟨rfl, _, hb1⟩
          have Hbe3 := Aside0.mk (Hbe.out.trans hb1)
          clear hb1
          go_wp2
          go_ret2
          exact ⟨by unfold RetDec; rw [HE.out]; simp [decRes], Hbe3.out⟩
        · have hE := HE.out
          rw [if_pos (Or.inr hz)] at hE
          have HE := Aside0.mk hE
          have z1 : ¬ ((now : Int) = 0) := by omega
          have z2 : ((now : Int) != 0) = true := by simpa using hz
          clear hE
          go_wp2
          go_ret2
          exact ⟨by unfold RetDec; rw [HE.out]; rfl, Hbe.out⟩
end Go.Proofs.Ytehnpmkfgdmmmaa.Sha
/- Plain: letters of four and of six bits. -/
namespace Go.Proofs.Ytehnpmkfgdmmmaa.Sha
open Go Go.RowKit Go.Proofs.Ytehnpmkfgdmmmaa
set_option linter.unusedVariables false
set_option linter.unusedSimpArgs false

def hexL (l : List UInt8) : List Nat := l.flatMap fun c => [c.toNat / 16, c.toNat % 16]
theorem enc4 : ∀ l : List UInt8, encI 4 l 0 0 = hexL l
  | [] => by rw [encI_end (by omega), if_neg (by omega)]; rfl
  | c :: l => by
    have h := c.toNat_lt
    rw [encI_next (by omega), encI_more (by omega) (by omega), encI_more (by omega) (by omega)]
    simp only [Nat.zero_mul, Nat.zero_add, Nat.reduceSub, Nat.reducePow, Nat.div_one, Nat.mod_one, Nat.reduceAdd]
    rw [enc4 l]
    rfl
theorem hexL_len : ∀ l : List UInt8, (hexL l).length = 2 * l.length
  | [] => rfl
  | c :: l => by
    have := hexL_len l
    unfold hexL at *
    rw [List.flatMap_cons, List.length_append, this]
    simp only [List.length_cons, List.length_nil]
    omega
def b64L : List UInt8 → List Nat
  | [] => []
  | [a] => [a.toNat / 4, a.toNat % 4 * 16]
  | [a, b] => [a.toNat / 4, a.toNat % 4 * 16 + b.toNat / 16, b.toNat % 16 * 4]
  | a :: b :: c :: l => a.toNat / 4 :: (a.toNat % 4 * 16 + b.toNat / 16) :: (b.toNat % 16 * 4 + c.toNat / 64) :: c.toNat % 64 :: b64L l
theorem enc6a (a : UInt8) (l : List UInt8) : encI 6 (a :: l) 0 0 = a.toNat / 4 :: encI 6 l (a.toNat % 4) 2 := by
  have := a.toNat_lt
  rw [encI_next (by omega), encI_more (by omega) (by omega)]
  simp
theorem enc6b (n : Nat) (b : UInt8) (l : List UInt8) (h : n < 4) : encI 6 (b :: l) n 2 = (n * 16 + b.toNat / 16) :: encI 6 l (b.toNat % 16) 4 := by
  have := b.toNat_lt
  rw [encI_next (by omega), encI_more (by omega) (by omega)]
  simp only [Nat.reduceSub, Nat.reducePow, Nat.reduceAdd]
  rw [show (n * 256 + b.toNat) / 16 = n * 16 + b.toNat / 16 by omega, show (n * 256 + b.toNat) % 16 = b.toNat % 16 by omega]
theorem enc6c (n : Nat) (c : UInt8) (l : List UInt8) (h : n < 16) : encI 6 (c :: l) n 4 = (n * 4 + c.toNat / 64) :: c.toNat % 64 :: encI 6 l 0 0 := by
  have := c.toNat_lt
  rw [encI_next (by omega), encI_more (by omega) (by omega), encI_more (by omega) (by omega)]
  simp only [Nat.reduceSub, Nat.reducePow, Nat.reduceAdd, Nat.div_one, Nat.mod_one]
  rw [show (n * 256 + c.toNat) / 64 = n * 4 + c.toNat / 64 by omega, show (n * 256 + c.toNat) % 64 = c.toNat % 64 by omega]
theorem enc6 : ∀ l : List UInt8, encI 6 l 0 0 = b64L l
  | [] => by rw [encI_end (by omega), if_neg (by omega)]; rfl
  | [a] => by
    rw [enc6a, encI_end (by omega), if_pos (by omega)]; rfl
  | [a, b] => by
    rw [enc6a, enc6b _ _ _ (by omega), encI_end (by omega), if_pos (by omega)]; rfl
  | a :: b :: c :: l => by
    rw [enc6a, enc6b _ _ _ (by omega), enc6c _ _ _ (by omega), enc6 l]; rfl
theorem b64L_len : ∀ l : List UInt8, (b64L l).length = (4 * l.length + 2) / 3
  | [] => rfl
  | [a] => by simp [b64L]
  | [a, b] => by simp [b64L]
  | a :: b :: c :: l => by
    have := b64L_len l
    simp only [b64L, List.length_cons]
    omega
theorem hexL_lt (l : List UInt8) : ∀ x ∈ hexL l, x < 16 := by
  intro x hx
  unfold hexL at hx
  rw [List.mem_flatMap] at hx
  obtain ⟨c, _, h⟩ := hx
  have := c.toNat_lt
  simp at h
  omega
theorem b64L_lt : ∀ l : List UInt8, ∀ x ∈ b64L l, x < 64
  | [], x, hx => by cases hx
  | [a], x, hx => by
    have := a.toNat_lt
    simp [b64L] at hx; omega
  | [a, b], x, hx => by
    have := a.toNat_lt
    have := b.toNat_lt
    simp [b64L] at hx; omega
  | a :: b :: c :: l, x, hx => by
    have := a.toNat_lt
    have := b.toNat_lt
    have := c.toNat_lt
    simp only [b64L, List.mem_cons] at hx
    rcases hx with h | h | h | h | h
    · omega
    · omega
    · omega
    · omega
    · exact b64L_lt l x h
end Go.Proofs.Ytehnpmkfgdmmmaa.Sha
/- The hand-walked functions of mac and of the document's sums, in the form in which a printed caller takes a callee. -/
namespace Go.Proofs.Ytehnpmkfgdmmmaa
open Go Go.RowKit Go.Proofs.YtehnpmkfgdmmmaaW.PrintWords
set_option linter.unusedVariables false
set_option linter.unusedSimpArgs false

def sumT (s : ByteArray) : ByteArray := ⟨(Sha.sumV s.data.toList).toArray⟩
theorem sumT_size (s : ByteArray) : (sumT s).size = 32 := by
  show (Sha.sumV s.data.toList).toArray.size = 32
  rw [List.size_toArray, Sha.sumV_len]
def mac_Sum.f (a0 : ByteArray) : Option ByteArray := if a0.size ≤ 1152921504606846976 then some (sumT a0) else none
theorem mac_Sum.calls (a0 : ByteArray) (r : ByteArray) (w : World) (h : mac_Sum.f a0 = some r) :
    Calls Try.prog 46 #[.string a0] w fun e w' => e = .returned (.string r) ∧ Below w.heap.size w w' := by
  unfold mac_Sum.f at h
  split at h
  · rename_i hs
    injection h with h
    subst h
    exact Sha.mac_sum_any a0 w hs
  · cases h
def atriumref04_Sum.f (a0 : ByteArray) : Option ByteArray := if a0.size ≤ 140737488354900 then some (sumT a0) else none
theorem atriumref04_Sum.calls (a0 : ByteArray) (r : ByteArray) (w : World) (h : atriumref04_Sum.f a0 = some r) :
    Calls Try.prog 48 #[.string a0] w fun e w' => e = .returned (.string r) ∧ Below w.heap.size w w' := by
  unfold atriumref04_Sum.f at h
  split at h
  · rename_i hs
    injection h with h
    subst h
    exact Sha.ref_sum_any a0 w hs
  · cases h
def mac_number.f (a0 : Int) : Option ByteArray := if 0 ≤ a0 ∧ a0 < 18446744073709551616 then some ⟨(Sha.numB a0.toNat).toArray⟩ else none
theorem mac_number.calls (a0 : Int) (r : ByteArray) (w : World) (h : mac_number.f a0 = some r) :
    Calls Try.prog 70 #[.int .u64 a0] w fun e w' => e = .returned (.string r) ∧ Below w.heap.size w w' := by
  unfold mac_number.f at h
  split at h
  · rename_i hs
    injection h with h
    subst h
    have := Sha.number_any a0.toNat w (by omega)
    rw [Int.toNat_of_nonneg hs.1] at this
    exact this
  · cases h
def mac_turned.f (a0 : ByteArray) (a1 : Int) : Option ByteArray := if a0.size ≤ 64 ∧ 0 ≤ a1 ∧ a1 < 256 then some ⟨(Sha.turnedL a0.data.toList a1.toNat.toUInt8).toArray⟩ else none
theorem mac_turned.calls (a0 : ByteArray) (a1 : Int) (r : ByteArray) (w : World) (h : mac_turned.f a0 a1 = some r) :
    Calls Try.prog 47 #[.string a0, .int .u8 a1] w fun e w' => e = .returned (.string r) ∧ Below w.heap.size w w' := by
  unfold mac_turned.f at h
  split at h
  · rename_i hs
    injection h with h
    subst h
    have := Sha.turned_any a0 a1.toNat.toUInt8 w hs.1
    rw [show ((a1.toNat.toUInt8).toNat : Int) = a1 by
      have : a1.toNat.toUInt8.toNat = a1.toNat % 256 := UInt8.toNat_ofNat'
      omega] at this
    exact this
  · cases h
def mac_groups.f (a0 : ByteArray) (a1 : Int) (a2 : ByteArray) : Option ByteArray :=
  if (a0.size ≤ 9223372036854775807 ∧ (Sha.encI a1.toNat a0.data.toList 0 0).length ≤ 140737488355328) ∧ (a1 = 4 ∨ a1 = 6) ∧ a2.size = 2 ^ a1.toNat then some ⟨(Sha.letB a2 (Sha.encI a1.toNat a0.data.toList 0 0)).toArray⟩ else none
theorem mac_groups.calls (a0 : ByteArray) (a1 : Int) (a2 : ByteArray) (r : ByteArray) (w : World) (h : mac_groups.f a0 a1 a2 = some r) :
    Calls Try.prog 45 #[.string a0, .int .i64 a1, .string a2] w fun e w' => e = .returned (.string r) ∧ Below w.heap.size w w' := by
  unfold mac_groups.f at h
  split at h
  · rename_i hs
    injection h with h
    subst h
    have := Sha.groups_any a0 a1.toNat a2 w hs.1.1 hs.1.2 (by omega) hs.2.2
    rw [Int.toNat_of_nonneg (by omega)] at this
    exact this
  · cases h
def mac_ungrouped.f (a0 : ByteArray) (a1 : Int) (a2 : ByteArray) : Option (ByteArray × Bool) :=
  if a0.size ≤ 140737488355328 ∧ (a1 = 4 ∨ a1 = 6) ∧ a2.size = 2 ^ a1.toNat then some (Sha.decRes (Sha.decG a1.toNat a2.data.toList a0.data.toList 0 0)) else none
theorem mac_ungrouped.calls (a0 : ByteArray) (a1 : Int) (a2 : ByteArray) (r1 : ByteArray) (r2 : Bool) (w : World) (h : mac_ungrouped.f a0 a1 a2 = some (r1, r2)) :
    Calls Try.prog 51 #[.string a0, .int .i64 a1, .string a2] w fun e w' => e = .returned (.tuple #[.string r1, .bool r2]) ∧ Below w.heap.size w w' := by
  unfold mac_ungrouped.f at h
  split at h
  · rename_i hs
    injection h with h
    have := Sha.ungrouped_any a0 a1.toNat a2 w hs.1 (by omega) hs.2.2
    rw [Int.toNat_of_nonneg (by omega)] at this
    refine this.mono fun e w' ⟨h1, h2⟩ => ⟨?_, h2⟩
    unfold Sha.RetDec at h1
    rw [h] at h1
    exact h1
  · cases h
def strings_Repeat.f (a0 : ByteArray) (a1 : Int) : Option ByteArray := if a0 = ⟨#[0]⟩ ∧ 0 ≤ a1 ∧ a1 ≤ 64 then some ⟨(List.replicate a1.toNat 0).toArray⟩ else none
theorem strings_Repeat.calls (a0 : ByteArray) (a1 : Int) (r : ByteArray) (w : World) (h : strings_Repeat.f a0 a1 = some r) :
    Calls Try.prog 69 #[.string a0, .int .i64 a1] w fun e w' => e = .returned (.string r) ∧ Below w.heap.size w w' := by
  unfold strings_Repeat.f at h
  split at h
  · rename_i hs
    injection h with h
    obtain ⟨rfl, h1, h2⟩ := hs
    have := Sha.repeat_any a1.toNat w (by omega)
    rw [Int.toNat_of_nonneg h1] at this
    refine this.mono ?_
    rintro e w' ⟨t, rfl, ht, _, hb⟩
    refine ⟨?_, hb⟩
    rw [← h, ← ht]
  · cases h
end Go.Proofs.Ytehnpmkfgdmmmaa
