/- Walks: mac's number; a Hasher's memory: start, New. -/
import Derived.Test.YtililaifppblhaaShaM
import Derived.Test.YtililaifppblhaaShaN
namespace Go.Proofs.Ytililaifppblhaa.Sha
open Go Go.RowKit Go.Proofs.Ytililaifppblhaa Go.Proofs.YtililaifppblhaaW.PrintWords
set_option linter.unusedVariables false
set_option linter.unusedSimpArgs false

/-! ### Cells of bytes -/
def bcs (l : List UInt8) : Array Value := (l.map fun c => Value.int .u8 (c.toNat : Int)).toArray
theorem bcs_size (l : List UInt8) : (bcs l).size = l.length := by simp [bcs]
theorem bcs_get (l : List UInt8) (i : Nat) (h : i < l.length) : (bcs l)[i]? = some (.int .u8 ((l.getD i 0).toNat : Int)) := by
  simp [bcs, List.getElem?_eq_getElem h]
theorem bcs_set (l : List UInt8) (i : Nat) (x : UInt8) : (bcs l).setIfInBounds i (.int .u8 (x.toNat : Int)) = bcs (l.set i x) := by
  apply Array.ext'
  simp [bcs]
/-- A number's bytes, as far as they are put from behind. -/
def numAcc (m : Nat) (i : Nat) : List UInt8 := List.replicate (8 - i) 0 ++ (numB m).drop (8 - i)
theorem numAcc_len (m i : Nat) (h : i ≤ 8) : (numAcc m i).length = 8 := by
  unfold numAcc
  rw [List.length_append, List.length_replicate, List.length_drop, show (numB m).length = 8 from rfl]; omega
theorem numAcc_put (m i : Nat) (h : i < 8) : (numAcc m i).set (7 - i) (b8 (m / 2 ^ (8 * i))) = numAcc m (i + 1) := by
  rcases (show i = 0 ∨ i = 1 ∨ i = 2 ∨ i = 3 ∨ i = 4 ∨ i = 5 ∨ i = 6 ∨ i = 7 by omega) with rfl | rfl | rfl | rfl | rfl | rfl | rfl | rfl
  case inl => rw [show m / 2 ^ (8 * 0) = m by simp]; rfl
  all_goals rfl
theorem row_of_bcs (w : World) (g : Nat) (l : List UInt8) (t : TypeId) (h : w.heap[g]? = some (.cells (bcs l) t (0, 0))) : RowB g l w := fun i hi =>
  ⟨(cell_of_row _ _ _ _ _ _ h).trans (bcs_get _ _ hi), frozen_of_row _ _ _ _ _ h⟩

set_option maxHeartbeats 1000000 in
theorem number_any (m : Nat) (w : World) (hm : m < 18446744073709551616) : Calls Try.prog 40 #[.int .u64 (m : Int)] w fun e w' => e = .returned (.string ⟨(numB m).toArray⟩) ∧ Below w.heap.size w w' := by
  have Hm := Aside0.mk hm
  clear hm
  go_enter Try.func40, Try.ntmps40
  go_upto_region 2 with fail
  have Hb := Aside0.mk (heap_alloc_new w (.cells (bcs (numAcc m 0)) 73))
  have HB := Aside0.mk ((Below.refl w.heap.size w).alloc (Nat.le_refl _) (.cells (bcs (numAcc m 0)) 73))
  rw [show (#[.int .u8 0, .int .u8 0, .int .u8 0, .int .u8 0, .int .u8 0, .int .u8 0, .int .u8 0, .int .u8 0] : Array Value) = bcs (numAcc m 0) from rfl]
  go_wp2
  go_loopw [0, 5] (fun nv iv wr => ∃ i x : Nat, i ≤ 8 ∧ iv = .int .i64 i ∧ nv = .int .u64 (x : Int) ∧ Aside0 (x = m / 2 ^ (8 * i)) ∧ Aside0 (wr.heap[w.heap.size]? = some (.cells (bcs (numAcc m i)) 73 (0, 0))) ∧ Aside0 (Below w.heap.size w wr)) (fun _ iv _ => 8 - (intOf iv).toNat)
  case atStart => exact ⟨0, m, Nat.zero_le _, rfl, rfl, ⟨by simp⟩, Hb, HB⟩
  case round =>
    clear Hb HB
    obtain ⟨i, x, hi, rfl, rfl, Hx, Hb, HB⟩ := hrel
    by_cases hlt : i < 8
    · have hc := row_of_bcs _ _ _ _ Hb.out (7 - i) (by rw [numAcc_len m i hi]; omega)
      have hc1 := hc.1
      have hc2 := hc.2
      clear hc
      generalize (numAcc m i).getD (7 - i) 0 = old at *
      go_wp2
      go_roundw
      case rel =>
        have e1 := numAcc_put m i hlt
        have e2 : (x : Int) % 256 = ((b8 (m / 2 ^ (8 * i))).toNat : Int) := by rw [b8_nat, ← Hx.out]; omega
        refine ⟨i + 1, x / 256, by omega, by go_num, by go_num, ⟨?_⟩, ⟨?_⟩, ⟨HB.out.setCell (p := ⟨w.heap.size, 7 - i, none⟩) (Nat.le_refl _) _⟩⟩
        · rw [Hx.out, Nat.div_div_eq_div_mul, show 8 * (i + 1) = 8 * i + 8 by omega, Nat.pow_add]
        · rw [← e1, ← bcs_set, ← e2]
          exact heap_setCell_same _ _ _ _ _ _ Hb.out
      case measure => simp [intOf]; omega
    · obtain rfl : i = 8 := by omega
      have hsl : (Instr.sliceAt 73 (.pointer (some ⟨w.heap.size, 0, none⟩)) none none none).run Try.prog wr = .ok (.slice (some ⟨w.heap.size, 0, none⟩) 8 8) wr := by kernel_rfl
      have hcv := (row_of_bcs _ _ _ _ Hb.out).text 8 8 (numAcc_len m 8 hi)
      go_wp2
      go_ret
      exact ⟨rfl, HB.out⟩
end Go.Proofs.Ytililaifppblhaa.Sha
