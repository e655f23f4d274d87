/- Bytes that '[]byte(s)' has made: a row known cell by cell; stores into it; the text of it. -/
import Derived.Test.YtamhecmopnekjaaProg
import Derived.Test.YtamhecmopnekjaaWWords
import Derived.WalkKit
import Derived.KernelRfl
import Derived.Lib.Hide
import Derived.RowKit3
namespace Go.Proofs.Ytamhecmopnekjaa
open Go Go.RowKit Go.Proofs.YtamhecmopnekjaaW.PrintWords
set_option linter.unusedVariables false
set_option linter.unusedSimpArgs false

/-- A row of bytes in block g, cell by cell. -/
def RowB (g : Nat) (L : List UInt8) (w : World) : Prop := ∀ i, i < L.length → w.cell? ⟨g, i, none⟩ = some (.int .u8 ((L.getD i 0).toNat : Int)) ∧ w.frozen? ⟨g, i, none⟩ = false
theorem rowB_new (w : World) (s : ByteArray) : RowB w.heap.size s.data.toList (Lib.bytesWorld w 5 s) := by
  intro i hi
  rw [Array.length_toList] at hi
  refine ⟨Lib.bytesWorld_cell w 5 s i hi, ?_⟩
  have hs : (Lib.bytesCells w 5 s).size ≥ s.size := by simp [Lib.bytesCells]
  have hz : s.data.size = s.size := rfl
  simp only [World.frozen?, Lib.bytesWorld_at_new]
  simp; omega
theorem RowB.set {g : Nat} {L : List UInt8} {w : World} (h : RowB g L w) (i : Nat) (c : UInt8) : RowB g (L.set i c) (w.setCell ⟨g, i, none⟩ (.int .u8 (c.toNat : Int))) := by
  intro j hj
  rw [List.length_set] at hj
  obtain ⟨h1, h2⟩ := h j hj
  refine ⟨?_, by rw [World.frozen?_setCell]; exact h2⟩
  by_cases he : i = j
  · subst he
    rw [World.cell?_setCell_same _ _ _ h1, List.getD_eq_getElem?_getD, List.getElem?_set_self hj, Option.getD_some]
  · rw [World.cell?_setCell_other _ _ _ _ (fun h => he (by injection h)), h1, List.getD_eq_getElem?_getD, List.getD_eq_getElem?_getD, List.getElem?_set_ne he]
theorem RowB.drewN {g : Nat} {L : List UInt8} {w : World} (h : RowB g L w) (n : Nat) : RowB g L (w.drewN n) := h
theorem RowB.drew {g : Nat} {L : List UInt8} {w : World} (h : RowB g L w) : RowB g L w.drew := h
theorem row_data_inj {a b : ByteArray} (h : a.data.toList = b.data.toList) : a = b := by cases a; cases b; simp at h; rw [h]
theorem row_str (L : List UInt8) : strOfNums (L.map fun c => (c.toNat : Int)) = ⟨L.toArray⟩ := by
  apply row_data_inj
  show ((L.map fun c => (c.toNat : Int)).map fun n => UInt8.ofNat n.toNat).toArray.toList = L.toArray.toList
  simp only [List.map_map, List.toList_toArray]
  conv => rhs; rw [← List.map_id L]
  apply List.map_congr_left
  intro c _
  show UInt8.ofNat ((c.toNat : Int).toNat) = c
  rw [Int.toNat_natCast, UInt8.ofNat_toNat]
/-- The text of such a row. -/
theorem RowB.text {g : Nat} {L : List UInt8} {w : World} (h : RowB g L w) (n cap : Nat) (hn : L.length = n) : (convert 22 9 (.slice (some ⟨g, 0, none⟩) n cap)).run Try.prog w = .ok (.string ⟨L.toArray⟩) w := by
  have hcv := run_convert_bytes_arg (P := Try.prog) w 22 5 Try.underlying22 Try.underlying5 g 0 n cap (L.map fun c => (c.toNat : Int)) (by rw [List.length_map, hn]) (fun i hi => by
    have h1 := (h i (by omega)).1
    rw [Nat.zero_add, h1, List.getD_eq_getElem?_getD, List.getD_eq_getElem?_getD, List.getElem?_map, List.getElem?_eq_getElem (by omega)]; rfl) 9 Try.underlying9
  rw [← row_str]
  exact hcv
end Go.Proofs.Ytamhecmopnekjaa
