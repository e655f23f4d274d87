/- Walks: Lower, of the program and of the document. -/
import Derived.Test.YtehnpmkfgdmmmaaMcA
namespace Go.Proofs.Ytehnpmkfgdmmmaa
open Go Go.RowKit Go.Proofs.YtehnpmkfgdmmmaaW.PrintWords
set_option linter.unusedVariables false
set_option linter.unusedSimpArgs false

def lowB (c : UInt8) : UInt8 := if 65 ≤ c.toNat ∧ c.toNat ≤ 90 then UInt8.ofNat (c.toNat + 32) else c
def lowS (s : ByteArray) : ByteArray := ⟨(s.data.toList.map lowB).toArray⟩
theorem low_step (l : List UInt8) (k : Nat) (h : k < l.length) : (l.take k).map lowB ++ l.drop k = ((l.take k).map lowB ++ l.drop k) ∧ ((l.take k).map lowB ++ l.drop k).set k (lowB (l.getD k 0)) = (l.take (k + 1)).map lowB ++ l.drop (k + 1) ∧ ((l.take k).map lowB ++ l.drop k).getD k 0 = l.getD k 0 := by
  have hl : ((l.take k).map lowB).length = k := by simp; omega
  refine ⟨rfl, ?_, ?_⟩
  · rw [List.set_append_right _ _ (by omega), hl, Nat.sub_self, List.drop_eq_getElem_cons h, List.set_cons_zero, List.take_succ_eq_append_getElem h, List.map_append, List.getD_eq_getElem?_getD, List.getElem?_eq_getElem h]
    simp
  · rw [List.getD_eq_getElem?_getD, List.getElem?_append_right (by omega), hl, Nat.sub_self, List.getD_eq_getElem?_getD]
    rw [List.getElem?_drop, Nat.add_zero]
theorem low_same (l : List UInt8) (k : Nat) (h : k < l.length) (hc : lowB (l.getD k 0) = l.getD k 0) : (l.take k).map lowB ++ l.drop k = (l.take (k + 1)).map lowB ++ l.drop (k + 1) := by
  obtain ⟨_, h2, h3⟩ := low_step l k h
  rw [← h2, hc, ← h3]
  rw [List.getD_eq_getElem?_getD]
  apply List.ext_getElem?
  intro i
  by_cases hi : k = i
  · subst hi
    rw [List.getElem?_set_self (by simp; omega), List.getElem?_eq_getElem (by simp; omega)]; simp
  · rw [List.getElem?_set_ne hi]

set_option maxHeartbeats 2000000 in
set_option maxRecDepth 100000 in
theorem lower_any (s : ByteArray) (w : World) (hs : s.size ≤ 9223372036854775807) :
    Calls Try.prog 31 #[.string s] w fun e w' => e = .returned (.string (lowS s)) ∧ Below w.heap.size w w' := by
  have kb := print_bytes (P := Try.prog) 9 37 5 Try.underlying9 Try.underlying37 Try.underlying5 s w
  have Hrow := Aside0.mk (rowB_new w s)
  have Hbel := Aside0.mk (bytes_below (Below.refl w.heap.size w) (Nat.le_refl _) 5 s)
  obtain ⟨g, hg⟩ : ∃ g, w.heap.size = g := ⟨_, rfl⟩
  have Hg := Aside0.mk hg
  rw [hg] at kb Hrow
  clear hg
  generalize Lib.bytesWorld w 5 s = W3 at kb Hrow Hbel
  have hbl : s.data.toList.length = s.size := Array.length_toList
  have Hbl := Aside0.mk hbl
  clear hbl
  go_enter Try.func31, Try.ntmps31
  go_wp2
  go_loopw [10] (fun iv wr => ∃ k : Nat, k ≤ s.size ∧ iv = .int .i64 k ∧ Aside0 (RowB g ((s.data.toList.take k).map lowB ++ s.data.toList.drop k) wr) ∧ Aside0 (Below w.heap.size w wr)) (fun iv _ => s.size - (intOf iv).toNat)
  case atStart => exact ⟨0, Nat.zero_le _, rfl, ⟨by simpa using Hrow.out⟩, Hbel⟩
  case round =>
    obtain ⟨k, hk, rfl, HRow, HBel⟩ := hrel
    by_cases hlt : k < s.size
    · have hll : k < s.data.toList.length := by rw [Hbl.out]; exact hlt
      obtain ⟨_, h2, h3⟩ := low_step s.data.toList k hll
      have hcell := HRow.out k (by simp; omega)
      rw [h3] at hcell
      have hc1 := hcell.1
      have hc2 := hcell.2
      have HS := Aside0.mk (low_same s.data.toList k hll)
      have HSet := Aside0.mk (HRow.out.set k (lowB (s.data.toList.getD k 0)))
      rw [h2] at HSet
      clear h2 h3 hcell hll
      have hcb := (s.data.toList.getD k 0).toNat_lt
      generalize hcc : s.data.toList.getD k 0 = c at *
      clear hcc
      by_cases hup : 65 ≤ c.toNat ∧ c.toNat ≤ 90
      · have hu1 : (65 : Int) ≤ (c.toNat : Int) := by omega
        have hu2 : (c.toNat : Int) ≤ 90 := by omega
        have HL := Aside0.mk (show ((lowB c).toNat : Int) = (c.toNat : Int) + 97 - 65 by unfold lowB; rw [if_pos hup, UInt8.toNat_ofNat', Nat.mod_eq_of_lt (by omega)]; omega)
        clear hup
        go_wp2
        go_roundw
        case rel => exact ⟨k + 1, by omega, by go_num, ⟨by have h := HSet.out; rw [HL.out] at h; exact h⟩, ⟨HBel.out.setCell (p := ⟨g, _, none⟩) (by rw [Hg.out]; exact Nat.le_refl _) _⟩⟩
        case measure => simp [intOf]; omega
      · have HL := Aside0.mk (HS.out (by unfold lowB; rw [if_neg hup]))
        by_cases hu1 : (65 : Int) ≤ (c.toNat : Int)
        · have hu2 : (90 : Int) < (c.toNat : Int) := by omega
          clear hup
          go_wp2
          go_roundw
          case rel => exact ⟨k + 1, by omega, by go_num, ⟨by rw [← HL.out]; exact HRow.out⟩, HBel⟩
          case measure => simp [intOf]; omega
        · have hu2 : (c.toNat : Int) < 65 := by omega
          clear hup hu1
          go_wp2
          go_roundw
          case rel => exact ⟨k + 1, by omega, by go_num, ⟨by rw [← HL.out]; exact HRow.out⟩, HBel⟩
          case measure => simp [intOf]; omega
    · obtain rfl : k = s.size := by omega
      have hfin : (s.data.toList.take s.size).map lowB ++ s.data.toList.drop s.size = s.data.toList.map lowB := by
        rw [← Hbl.out, List.take_length, List.drop_length, List.append_nil]
      have hrow := HRow.out
      rw [hfin] at hrow
      have hcv := hrow.text s.size (grownCap w s.size 0 5) (by rw [List.length_map, Hbl.out])
      clear hrow hfin
      go_wp2
      go_ret
      exact ⟨rfl, HBel.out⟩

set_option maxHeartbeats 2000000 in
set_option maxRecDepth 100000 in
theorem ref_lower_any (s : ByteArray) (w : World) (hs : s.size ≤ 9223372036854775807) :
    Calls Try.prog 32 #[.string s] w fun e w' => e = .returned (.string (lowS s)) ∧ Below w.heap.size w w' := by
  have kb := print_bytes (P := Try.prog) 9 37 5 Try.underlying9 Try.underlying37 Try.underlying5 s w
  have Hrow := Aside0.mk (rowB_new w s)
  have Hbel := Aside0.mk (bytes_below (Below.refl w.heap.size w) (Nat.le_refl _) 5 s)
  obtain ⟨g, hg⟩ : ∃ g, w.heap.size = g := ⟨_, rfl⟩
  have Hg := Aside0.mk hg
  rw [hg] at kb Hrow
  clear hg
  generalize Lib.bytesWorld w 5 s = W3 at kb Hrow Hbel
  have hbl : s.data.toList.length = s.size := Array.length_toList
  have Hbl := Aside0.mk hbl
  clear hbl
  go_enter Try.func32, Try.ntmps32
  go_wp2
  go_loopw [4] (fun iv wr => ∃ k : Nat, k ≤ s.size ∧ iv = .int .i64 k ∧ Aside0 (RowB g ((s.data.toList.take k).map lowB ++ s.data.toList.drop k) wr) ∧ Aside0 (Below w.heap.size w wr)) (fun iv _ => s.size - (intOf iv).toNat)
  case atStart => exact ⟨0, Nat.zero_le _, rfl, ⟨by simpa using Hrow.out⟩, Hbel⟩
  case round =>
    obtain ⟨k, hk, rfl, HRow, HBel⟩ := hrel
    by_cases hlt : k < s.size
    · have hll : k < s.data.toList.length := by rw [Hbl.out]; exact hlt
      obtain ⟨_, h2, h3⟩ := low_step s.data.toList k hll
      have hcell := HRow.out k (by simp; omega)
      rw [h3] at hcell
      have hc1 := hcell.1
      have hc2 := hcell.2
      have HS := Aside0.mk (low_same s.data.toList k hll)
      have HSet := Aside0.mk (HRow.out.set k (lowB (s.data.toList.getD k 0)))
      rw [h2] at HSet
      clear h2 h3 hcell hll
      have hcb := (s.data.toList.getD k 0).toNat_lt
      generalize hcc : s.data.toList.getD k 0 = c at *
      clear hcc
      by_cases hup : 65 ≤ c.toNat ∧ c.toNat ≤ 90
      · have hu1 : (65 : Int) ≤ (c.toNat : Int) := by omega
        have hu2 : (c.toNat : Int) ≤ 90 := by omega
        have HL := Aside0.mk (show ((lowB c).toNat : Int) = (c.toNat : Int) + 32 by unfold lowB; rw [if_pos hup, UInt8.toNat_ofNat', Nat.mod_eq_of_lt (by omega)]; omega)
        clear hup
        go_wp2
        go_roundw
        case rel => exact ⟨k + 1, by omega, by go_num, ⟨by have h := HSet.out; rw [HL.out] at h; exact h⟩, ⟨HBel.out.setCell (p := ⟨g, _, none⟩) (by rw [Hg.out]; exact Nat.le_refl _) _⟩⟩
        case measure => simp [intOf]; omega
      · have HL := Aside0.mk (HS.out (by unfold lowB; rw [if_neg hup]))
        by_cases hu1 : (65 : Int) ≤ (c.toNat : Int)
        · have hu2 : (90 : Int) < (c.toNat : Int) := by omega
          clear hup
          go_wp2
          go_roundw
          case rel => exact ⟨k + 1, by omega, by go_num, ⟨by rw [← HL.out]; exact HRow.out⟩, HBel⟩
          case measure => simp [intOf]; omega
        · have hu2 : (c.toNat : Int) < 65 := by omega
          clear hup hu1
          go_wp2
          go_roundw
          case rel => exact ⟨k + 1, by omega, by go_num, ⟨by rw [← HL.out]; exact HRow.out⟩, HBel⟩
          case measure => simp [intOf]; omega
    · obtain rfl : k = s.size := by omega
      have hfin : (s.data.toList.take s.size).map lowB ++ s.data.toList.drop s.size = s.data.toList.map lowB := by
        rw [← Hbl.out, List.take_length, List.drop_length, List.append_nil]
      have hrow := HRow.out
      rw [hfin] at hrow
      have hcv := hrow.text s.size (grownCap w s.size 0 5) (by rw [List.length_map, Hbl.out])
      clear hrow hfin
      go_wp2
      go_ret
      exact ⟨rfl, HBel.out⟩

end Go.Proofs.Ytehnpmkfgdmmmaa
