/- vfs: has. -/
import Derived.Test.YtamhecmopnekjaaVfTw
import Derived.Laws.Rows
import Derived.Laws.ResultCell
namespace Go.Proofs.Ytamhecmopnekjaa.Vf
open Go Go.RowKit Go.Maps Go.Proofs.Ytamhecmopnekjaa Go.Proofs.YtamhecmopnekjaaW.PrintWords
set_option linter.unusedVariables false
set_option linter.unusedSimpArgs false

theorem tl_inj {a b : ByteArray} : a.toList = b.toList ↔ a = b := by
  rw [ByteArray.toList_eq, ByteArray.toList_eq]
  constructor
  · intro h; cases a; cases b; simp at h; rw [h]
  · intro h; rw [h]
theorem results_ct {P : Program} {fn : Func} {p u : Tmp} {ty : TypeId} (h : fn.results = #[.cell p ty, .tmp u]) (tmps : Array Value) (w : World) (g : Nat) (t : TypeId) (cs : Array Value) (fr : Nat × Nat) (d : TypeDesc)
    (hp : tmps.getD p undef = .pointer (some ⟨g, 0, none⟩)) (hg : w.heap[g]? = some (.cells cs t fr))
    (hu : P.underlying ty = some d) (hd : (match d with | .struct _ | .array _ _ => true | _ => false) = true) (hi : (P.info? ty).map (·.size) = some cs.size) (v : Value) (hv : tmps.getD u undef = v) :
    (results fn tmps).run P w = .ok (.tuple #[.agg cs, v]) w := by
  rw [results_cell_tmp h, hp, hv]
  simp [asAddr, run_loadVar_row w g t ty cs fr d hg hu hd hi, Result.andThen]
theorem has_put {w wr : World} {v0 v1 v2 : Value} (hb : Below w.heap.size w wr) {cs : Array Value} (hcs : cs.size = 3) (hx : wr.heap[w.heap.size]? = some (.cells cs TF (0, 0))) :
    (((wr.setCell ⟨w.heap.size, 0, none⟩ v0).setCell ⟨w.heap.size, 1, none⟩ v1).setCell ⟨w.heap.size, 2, none⟩ v2).heap[w.heap.size]? = some (.cells #[v0, v1, v2] TF (0, 0)) ∧ Below w.heap.size w (((wr.setCell ⟨w.heap.size, 0, none⟩ v0).setCell ⟨w.heap.size, 1, none⟩ v1).setCell ⟨w.heap.size, 2, none⟩ v2) := by
  obtain ⟨a, b, c, rfl⟩ : ∃ a b c, cs = #[a, b, c] := by
    obtain ⟨l⟩ := cs
    match l, hcs with
    | [a, b, c], _ => exact ⟨a, b, c, rfl⟩
  exact ⟨blk_put (blk_put (blk_put hx 0 v0 rfl) 1 v1 rfl) 2 v2 rfl, ((hb.setCell (p := ⟨w.heap.size, 0, none⟩) (Nat.le_refl _) v0).setCell (p := ⟨w.heap.size, 1, none⟩) (Nat.le_refl _) v1).setCell (p := ⟨w.heap.size, 2, none⟩) (Nat.le_refl _) v2⟩
set_option maxHeartbeats 4000000 in
set_option maxRecDepth 100000 in
theorem has_any (A : Option Addr) (c : Nat) (xs : List SF) (s : ByteArray) (w : World) (hC : kF.C w A xs.length xs) (hc : xs.length ≤ c) (hl : xs.length ≤ 2000000000000) :
    Calls Try.prog 17 #[.slice A xs.length c, .string s] w fun e w' => Below w.heap.size w w' ∧
      ((∃ x A5 c5, x ∈ xs ∧ x.f0 = s ∧ e = .returned (.tuple #[.agg #[.string x.f0, .slice A5 x.f1.length c5, .int .i64 x.f2], .bool true]) ∧ x.f1.length ≤ c5 ∧ (Kd.int .u8).C w' A5 x.f1.length x.f1) ∨
       ((∀ x ∈ xs, x.f0 ≠ s) ∧ e = .returned (.tuple #[.agg #[.string ⟨#[]⟩, .slice none 0 0, .int .i64 0], .bool false]))) := by
  have huF := Try.underlying37
  have HC := Aside0.mk hC
  obtain ⟨wb, hwb⟩ : ∃ wb, w.alloc (.cells #[.string ⟨#[]⟩, .slice none 0 0, .int .i64 0] TF) = wb := ⟨_, rfl⟩
  have HB := Aside0.mk (show Below w.heap.size w wb by rw [← hwb]; exact below_alloc (Below.refl _ _) _)
  have HX := Aside0.mk (show wb.heap[w.heap.size]? = some (.cells #[.string ⟨#[]⟩, .slice none 0 0, .int .i64 0] TF (0, 0)) by rw [← hwb]; exact heap_alloc_new w _)
  clear hC
  go_enter Try.func17, Try.ntmps17
  go_wp2
  have HP0 := Aside0.mk (show Below wb.heap.size wb wb ∧ ∀ x ∈ xs.take 0, x.f0 ≠ s from ⟨Below.refl _ _, fun x hx => by rw [List.take_zero] at hx; cases hx⟩)
  go_loopw [6] (fun iv wr => ∃ i : Nat, i ≤ xs.length ∧ iv = .int .i64 i ∧ Aside0 (Below wb.heap.size wb wr ∧ ∀ x ∈ xs.take i, x.f0 ≠ s)) (fun iv _ => xs.length - (intOf iv).toNat)
  case atStart => exact ⟨0, Nat.zero_le _, rfl, HP0⟩
  case round =>
    clear HP0
    obtain ⟨i, hi, rfl, HP⟩ := hrel
    by_cases hlt : i < xs.length
    · obtain ⟨ad, A5, c5, rfl, z0, z1, z2, l5, C5⟩ := PB.at_T37 HC.out (i : Int) (by omega) (by omega)
      have hli : (i : Int) < (xs.length : Int) := by omega
      have HCw := Aside0.mk C5
      have hbr := HB.out.trans (HP.out.1.mono HB.out.size)
      replace z0 := (hbr.cell (World.block_lt_of_cell? w _ z0)).trans z0
      replace z1 := (hbr.cell (World.block_lt_of_cell? w _ z1)).trans z1
      replace z2 := (hbr.cell (World.block_lt_of_cell? w _ z2)).trans z2
      clear hbr
      rw [Int.toNat_natCast] at z0 z1 z2
      have hmem : PB.rd_T37 xs (i : Int) ∈ xs := by
        unfold PB.rd_T37
        rw [Int.toNat_natCast, List.getD_eq_getElem?_getD, List.getElem?_eq_getElem hlt]
        exact List.getElem_mem hlt
      have htk : xs.take (i + 1) = xs.take i ++ [PB.rd_T37 xs (i : Int)] := by
        unfold PB.rd_T37
        rw [Int.toNat_natCast, List.getD_eq_getElem?_getD, List.take_add_one, List.getElem?_eq_getElem hlt]
        rfl
      have Hm := Aside0.mk hmem
      have Ht := Aside0.mk htk
      have Hl5 := Aside0.mk l5
      have HXr := Aside0.mk ((HP.out.1.block _ (blk_lt HX.out)).trans HX.out)
      clear hmem htk C5 l5
      generalize PB.rd_T37 xs (i : Int) = x at *
      have r0 : wr.cell? ⟨w.heap.size, 0, none⟩ = some (.string ⟨#[]⟩) := (blk_cell HXr.out 0).trans rfl
      have r1 : wr.cell? ⟨w.heap.size, 1, none⟩ = some (.slice none 0 0) := (blk_cell HXr.out 1).trans rfl
      have r2 : wr.cell? ⟨w.heap.size, 2, none⟩ = some (.int .i64 0) := (blk_cell HXr.out 2).trans rfl
      have f0 := blk_frozen HXr.out 0
      have f1 := blk_frozen HXr.out 1
      have f2 := blk_frozen HXr.out 2
      by_cases he : x.f0 = s
      · subst he
        go_wp2
        (try simp only [Exit.inBlock, Exit.then])
        have hp := has_put (v0 := .string x.f0) (v1 := .slice A5 x.f1.length c5) (v2 := .int .i64 x.f2) (HB.out.trans (HP.out.1.mono HB.out.size)) rfl HXr.out
        have hC6 : (Kd.int .u8).C (((wr.setCell ⟨w.heap.size, 0, none⟩ (.string x.f0)).setCell ⟨w.heap.size, 1, none⟩ (.slice A5 x.f1.length c5)).setCell ⟨w.heap.size, 2, none⟩ (.int .i64 x.f2)) A5 x.f1.length x.f1 := by
          refine Kd.C_below (HCw.out) hp.2
        exact bodyPost_ret (results_ct rfl _ _ w.heap.size TF _ (0, 0) _ rfl hp.1 huF rfl (by kernel_rfl) _ rfl) rfl ⟨hp.2, .inl ⟨x, A5, c5, Hm.out, rfl, rfl, Hl5.out, hC6⟩⟩
      · have hne : (x.f0.toList == s.toList) = false := beq_eq_false_iff_ne.2 (fun e => he (tl_inj.1 e))
        have HP1 := Aside0.mk (show Below wb.heap.size wb wr ∧ ∀ y ∈ xs.take (i + 1), y.f0 ≠ s from ⟨HP.out.1, fun y hy => by
          rw [Ht.out] at hy
          rcases List.mem_append.1 hy with hy | hy
          · exact HP.out.2 y hy
          · rw [List.mem_singleton.1 hy]; exact he⟩)
        clear he
        go_wp2
        go_roundw
        case rel => exact ⟨i + 1, by omega, by go_num, HP1⟩
        case measure => simp [intOf]; omega
    · obtain rfl : i = xs.length := by omega
      have HXr := Aside0.mk ((HP.out.1.block _ (blk_lt HX.out)).trans HX.out)
      have r0 : wr.cell? ⟨w.heap.size, 0, none⟩ = some (.string ⟨#[]⟩) := (blk_cell HXr.out 0).trans rfl
      have r1 : wr.cell? ⟨w.heap.size, 1, none⟩ = some (.slice none 0 0) := (blk_cell HXr.out 1).trans rfl
      have r2 : wr.cell? ⟨w.heap.size, 2, none⟩ = some (.int .i64 0) := (blk_cell HXr.out 2).trans rfl
      have f0 := blk_frozen HXr.out 0
      have f1 := blk_frozen HXr.out 1
      have f2 := blk_frozen HXr.out 2
      go_wp2
      (try simp only [Exit.inBlock, Exit.then])
      have hp := has_put (v0 := .string ⟨#[]⟩) (v1 := .slice none 0 0) (v2 := .int .i64 0) (HB.out.trans (HP.out.1.mono HB.out.size)) rfl HXr.out
      exact bodyPost_ret (results_ct rfl _ _ w.heap.size TF _ (0, 0) _ rfl hp.1 huF rfl (by kernel_rfl) _ rfl) rfl ⟨hp.2, .inr ⟨fun x hx => HP.out.2 x (by rw [List.take_length]; exact hx), rfl⟩⟩
end Go.Proofs.Ytamhecmopnekjaa.Vf
