/- Walks: a block of the document's. -/
import Derived.Test.YtehnpmkfgdmmmaaShaM
namespace Go.Proofs.Ytehnpmkfgdmmmaa.Sha
open Go Go.RowKit Go.Proofs.Ytehnpmkfgdmmmaa Go.Proofs.YtehnpmkfgdmmmaaW.PrintWords
set_option linter.unusedVariables false
set_option linter.unusedSimpArgs false

theorem ref_ror_any (x : V) (n : Int) (hn : 0 ≤ n ∧ n.toNat ∈ ks) (w : World) : Calls Try.prog 72 #[.int .u32 (x.toNat : Int), .int .i64 n] w fun e w' => e = .returned (.int .u32 ((rorV x n.toNat).toNat : Int)) ∧ ∃ m, w' = w.drewN m := by
  have hf := ref_ror_f x n.toNat hn.2
  rw [Int.toNat_of_nonneg hn.1] at hf
  exact (PR.atriumref04_ror.calls _ _ _ w hf).mono fun e w' h => ⟨h.1, h.2.out⟩

/-- ref.block's memory. -/
structure RW (w0 : World) (g2 g4 g5 : Nat) (L W : List V) (wr : World) : Prop where
  s : wr.heap[g2]? = some (.cells (cvs L) 86 (0, 0))
  r : wr.heap[g4]? = some (.cells (cvs (List.replicate 8 0)) 86 (0, 0))
  w : wr.heap[g5]? = some (.cells (cvs W) 101 (0, 0))
  len : W.length = 64
  kb : Below w0.heap.size w0 wr
  lt : w0.heap.size ≤ g2 ∧ g2 < g4 ∧ g4 < g5
theorem RW.set {w0 : World} {g2 g4 g5 : Nat} {L W : List V} {wr : World} (H : RW w0 g2 g4 g5 L W wr) (i : Nat) (x : V) : RW w0 g2 g4 g5 L (W.set i x) (wr.setCell ⟨g5, i, none⟩ (.int .u32 (x.toNat : Int))) := by
  have l := H.lt
  refine ⟨(heap_setCell_other _ _ _ _ (by show g2 ≠ g5; omega)).trans H.s, (heap_setCell_other _ _ _ _ (by show g4 ≠ g5; omega)).trans H.r, ?_, by rw [List.length_set]; exact H.len, H.kb.setCell (p := ⟨g5, i, none⟩) (by show _ ≤ g5; omega) _, H.lt⟩
  rw [← cvs_set]
  exact heap_setCell_same _ _ _ _ _ _ H.w
theorem RW.cell {w0 : World} {g2 g4 g5 : Nat} {L W : List V} {wr : World} (H : RW w0 g2 g4 g5 L W wr) (i : Nat) (hi : i < 64) : wr.cell? ⟨g5, i, none⟩ = some (.int .u32 ((W.getD i 0).toNat : Int)) ∧ wr.frozen? ⟨g5, i, none⟩ = false :=
  ⟨(cell_of_row _ _ _ _ _ _ H.w).trans (cvs_get _ _ (by rw [H.len]; exact hi)), frozen_of_row _ _ _ _ _ H.w⟩
theorem RW.drew {w0 : World} {g2 g4 g5 : Nat} {L W : List V} {wr : World} (H : RW w0 g2 g4 g5 L W wr) : RW w0 g2 g4 g5 L W wr.drew := ⟨H.s, H.r, H.w, H.len, H.kb.drew, H.lt⟩
theorem RW.drewN {w0 : World} {g2 g4 g5 : Nat} {L W : List V} {wr : World} (H : RW w0 g2 g4 g5 L W wr) (n : Nat) : RW w0 g2 g4 g5 L W (wr.drewN n) := ⟨H.s, H.r, H.w, H.len, pw_below_drewN H.kb n, H.lt⟩
theorem heap_size_alloc (w : World) (o : Obj) : (w.alloc o).heap.size = w.heap.size + 1 := by
  show (w.heap.push o).size = _; simp
theorem rw_start (w : World) (S : S8) : RW w w.heap.size (w.heap.size + 1) (w.heap.size + 1 + 1) S.l (List.replicate 64 0) (((w.alloc (.cells (cvs S.l) 86)).alloc (.cells (cvs (List.replicate 8 0)) 86)).alloc (.cells (cvs (List.replicate 64 0)) 101)) := by
  have s1 := heap_size_alloc w (.cells (cvs S.l) 86)
  have s2 := heap_size_alloc (w.alloc (.cells (cvs S.l) 86)) (.cells (cvs (List.replicate 8 0)) 86)
  rw [s1] at s2
  have h2 := heap_alloc_new (w.alloc (.cells (cvs S.l) 86)) (.cells (cvs (List.replicate 8 0)) 86)
  have h3 := heap_alloc_new ((w.alloc (.cells (cvs S.l) 86)).alloc (.cells (cvs (List.replicate 8 0)) 86)) (.cells (cvs (List.replicate 64 0)) 101)
  rw [s1] at h2
  rw [s2] at h3
  refine ⟨?_, ?_, h3, List.length_replicate, (((Below.refl _ _).alloc (Nat.le_refl _) _).alloc (by rw [s1]; omega) _).alloc (by rw [s2]; omega) _, by omega⟩
  · rw [Go.heap_alloc_old _ _ (by rw [s2]; omega), Go.heap_alloc_old _ _ (by rw [s1]; omega)]
    exact heap_alloc_new _ _
  · rw [Go.heap_alloc_old _ _ (by rw [s2]; omega)]
    exact h2

/-- .. and the constants' row and the row of the rounds. -/
structure RV (w0 : World) (g2 g4 g5 g10 g11 : Nat) (L W : List V) (X : S8) (wr : World) : Prop where
  rw : RW w0 g2 g4 g5 L W wr
  k : wr.heap[g10]? = some (.cells (cvs kV) 101 (0, 0))
  v : wr.heap[g11]? = some (.cells (cvs X.l) 86 (0, 0))
  lt : g5 < g10 ∧ g10 < g11
theorem below_blk {B : Nat} {w w' : World} (h : Below B w w') {g : Nat} {o : Obj} (hg : w.heap[g]? = some o) (hlt : g < B) : w'.heap[g]? = some o := (h.block g hlt).trans hg
theorem RW.keep {w0 : World} {g2 g4 g5 : Nat} {L W : List V} {wr wr' : World} (H : RW w0 g2 g4 g5 L W wr) (h : Below wr.heap.size wr wr') : RW w0 g2 g4 g5 L W wr' := by
  have l := H.lt
  have l5 : g5 < wr.heap.size := (Array.getElem?_eq_some_iff.1 H.w).1
  have hz := H.kb.size
  exact ⟨below_blk h H.s (by omega), below_blk h H.r (by omega), below_blk h H.w l5, H.len, H.kb.trans (h.mono hz), H.lt⟩
theorem rv_k {w0 : World} {g2 g4 g5 : Nat} {L W : List V} {wr w1 : World} {zs : Array Value} (H : RW w0 g2 g4 g5 L W wr) (h : Below wr.heap.size wr w1) : RW w0 g2 g4 g5 L W ((w1.alloc (.cells zs 101)).setRow w1.heap.size (cvs kV)) ∧ ((w1.alloc (.cells zs 101)).setRow w1.heap.size (cvs kV)).heap[w1.heap.size]? = some (.cells (cvs kV) 101 (0, 0)) ∧ g5 < w1.heap.size := by
  have l5 : g5 < wr.heap.size := (Array.getElem?_eq_some_iff.1 H.w).1
  have hz := h.size
  exact ⟨(H.keep h).keep (row_new_below _ _ _ _), row_new _ _ _ _, by omega⟩
theorem rv_v {w0 : World} {g2 g4 g5 g10 : Nat} {L W : List V} {wr : World} {zs : Array Value} (X : S8) (H : RW w0 g2 g4 g5 L W wr) (hk : wr.heap[g10]? = some (.cells (cvs kV) 101 (0, 0))) (hlt : g5 < g10) : RV w0 g2 g4 g5 g10 wr.heap.size L W X ((wr.alloc (.cells zs 86)).setRow wr.heap.size (cvs X.l)) := by
  have l10 : g10 < wr.heap.size := (Array.getElem?_eq_some_iff.1 hk).1
  exact ⟨H.keep (row_new_below _ _ _ _), below_blk (row_new_below _ _ _ _) hk l10, row_new _ _ _ _, hlt, l10⟩
theorem RV.drewN {w0 : World} {g2 g4 g5 g10 g11 : Nat} {L W : List V} {X : S8} {wr : World} (H : RV w0 g2 g4 g5 g10 g11 L W X wr) (n : Nat) : RV w0 g2 g4 g5 g10 g11 L W X (wr.drewN n) := ⟨H.rw.drewN n, H.k, H.v, H.lt⟩
theorem RV.drew {w0 : World} {g2 g4 g5 g10 g11 : Nat} {L W : List V} {X : S8} {wr : World} (H : RV w0 g2 g4 g5 g10 g11 L W X wr) : RV w0 g2 g4 g5 g10 g11 L W X wr.drew := ⟨H.rw.drew, H.k, H.v, H.lt⟩
theorem RV.c {w0 : World} {g2 g4 g5 g10 g11 : Nat} {L W : List V} {X : S8} {wr : World} (H : RV w0 g2 g4 g5 g10 g11 L W X wr) (i : Nat) (x : V) (hi : X.l[i]? = some x) : wr.cell? ⟨g11, i, none⟩ = some (.int .u32 (x.toNat : Int)) := by
  rw [cell_of_row _ _ _ _ _ _ H.v]
  simp [cvs, hi]
theorem RV.f {w0 : World} {g2 g4 g5 g10 g11 : Nat} {L W : List V} {X : S8} {wr : World} (H : RV w0 g2 g4 g5 g10 g11 L W X wr) (i : Nat) : wr.frozen? ⟨g11, i, none⟩ = false := frozen_of_row _ _ _ _ _ H.v
theorem RV.ck {w0 : World} {g2 g4 g5 g10 g11 : Nat} {L W : List V} {X : S8} {wr : World} (H : RV w0 g2 g4 g5 g10 g11 L W X wr) (i : Nat) (hi : i < 64) : wr.cell? ⟨g10, i, none⟩ = some (.int .u32 ((kV.getD i 0).toNat : Int)) :=
  (cell_of_row _ _ _ _ _ _ H.k).trans (cvs_get _ _ (by rw [kV_len]; exact hi))
theorem RV.set1 {w0 : World} {g2 g4 g5 g10 g11 : Nat} {L W : List V} {X Y : S8} {wr : World} (H : RV w0 g2 g4 g5 g10 g11 L W X wr) (i : Nat) (x : V) (hY : X.l.set i x = Y.l) : RV w0 g2 g4 g5 g10 g11 L W Y (wr.setCell ⟨g11, i, none⟩ (.int .u32 (x.toNat : Int))) := by
  have l := H.rw.lt
  have l2 := H.lt
  refine ⟨⟨(heap_setCell_other _ _ _ _ (by show g2 ≠ g11; omega)).trans H.rw.s, (heap_setCell_other _ _ _ _ (by show g4 ≠ g11; omega)).trans H.rw.r, (heap_setCell_other _ _ _ _ (by show g5 ≠ g11; omega)).trans H.rw.w, H.rw.len, H.rw.kb.setCell (p := ⟨g11, i, none⟩) (by show _ ≤ g11; omega) _, H.rw.lt⟩, (heap_setCell_other _ _ _ _ (by show g10 ≠ g11; omega)).trans H.k, ?_, H.lt⟩
  rw [← hY, ← cvs_set]
  exact heap_setCell_same _ _ _ _ _ _ H.v
theorem RV.set8 {w0 : World} {g2 g4 g5 g10 g11 : Nat} {L W : List V} {X : S8} {wr : World} (H : RV w0 g2 g4 g5 g10 g11 L W X wr) (a b c d e f g i : V) :
    RV w0 g2 g4 g5 g10 g11 L W ⟨a, b, c, d, e, f, g, i⟩ ((((((((wr.setCell ⟨g11, 0, none⟩ (.int .u32 (a.toNat : Int))).setCell ⟨g11, 1, none⟩ (.int .u32 (b.toNat : Int))).setCell ⟨g11, 2, none⟩ (.int .u32 (c.toNat : Int))).setCell ⟨g11, 3, none⟩ (.int .u32 (d.toNat : Int))).setCell ⟨g11, 4, none⟩ (.int .u32 (e.toNat : Int))).setCell ⟨g11, 5, none⟩ (.int .u32 (f.toNat : Int))).setCell ⟨g11, 6, none⟩ (.int .u32 (g.toNat : Int))).setCell ⟨g11, 7, none⟩ (.int .u32 (i.toNat : Int))) := by
  obtain ⟨xa, xb, xc, xd, xe, xf, xg, xh⟩ := X
  have h0 : RV w0 g2 g4 g5 g10 g11 L W ⟨a, xb, xc, xd, xe, xf, xg, xh⟩ _ := H.set1 0 a rfl
  have h1 : RV w0 g2 g4 g5 g10 g11 L W ⟨a, b, xc, xd, xe, xf, xg, xh⟩ _ := h0.set1 1 b rfl
  have h2 : RV w0 g2 g4 g5 g10 g11 L W ⟨a, b, c, xd, xe, xf, xg, xh⟩ _ := h1.set1 2 c rfl
  have h3 : RV w0 g2 g4 g5 g10 g11 L W ⟨a, b, c, d, xe, xf, xg, xh⟩ _ := h2.set1 3 d rfl
  have h4 : RV w0 g2 g4 g5 g10 g11 L W ⟨a, b, c, d, e, xf, xg, xh⟩ _ := h3.set1 4 e rfl
  have h5 : RV w0 g2 g4 g5 g10 g11 L W ⟨a, b, c, d, e, f, xg, xh⟩ _ := h4.set1 5 f rfl
  have h6 : RV w0 g2 g4 g5 g10 g11 L W ⟨a, b, c, d, e, f, g, xh⟩ _ := h5.set1 6 g rfl
  exact h6.set1 7 i rfl
theorem RV.cs {w0 : World} {g2 g4 g5 g10 g11 : Nat} {L W : List V} {X : S8} {wr : World} (H : RV w0 g2 g4 g5 g10 g11 L W X wr) (i : Nat) (hi : i < L.length) : wr.cell? ⟨g2, i, none⟩ = some (.int .u32 ((L.getD i 0).toNat : Int)) ∧ wr.frozen? ⟨g2, i, none⟩ = false :=
  ⟨(cell_of_row _ _ _ _ _ _ H.rw.s).trans (cvs_get _ _ hi), frozen_of_row _ _ _ _ _ H.rw.s⟩
theorem RV.sets {w0 : World} {g2 g4 g5 g10 g11 : Nat} {L W : List V} {X : S8} {wr : World} (H : RV w0 g2 g4 g5 g10 g11 L W X wr) (i : Nat) (x : V) : RV w0 g2 g4 g5 g10 g11 (L.set i x) W X (wr.setCell ⟨g2, i, none⟩ (.int .u32 (x.toNat : Int))) := by
  have l := H.rw.lt
  have l2 := H.lt
  refine ⟨⟨?_, (heap_setCell_other _ _ _ _ (by show g4 ≠ g2; omega)).trans H.rw.r, (heap_setCell_other _ _ _ _ (by show g5 ≠ g2; omega)).trans H.rw.w, H.rw.len, H.rw.kb.setCell (p := ⟨g2, i, none⟩) (by show _ ≤ g2; omega) _, H.rw.lt⟩, (heap_setCell_other _ _ _ _ (by show g10 ≠ g2; omega)).trans H.k, (heap_setCell_other _ _ _ _ (by show g11 ≠ g2; omega)).trans H.v, H.lt⟩
  rw [← cvs_set]
  exact heap_setCell_same _ _ _ _ _ _ H.rw.s

set_option maxHeartbeats 1000000 in
set_option maxRecDepth 100000 in
theorem ref_block_any (S : S8) (b : ByteArray) (w : World) (hb : b.size = 64) :
    Calls Try.prog 60 #[.agg (cvs S.l), .string b] w fun e w' => e = .returned (.agg (cvs (blockV S b.data.toList).l)) ∧ Below w.heap.size w w' := by
  have HS := Aside0.mk (rw_start w S)
  go_enter Try.func60, Try.ntmps60
  go_wp2
  generalize w.heap.size + 1 + 1 = g5 at HS ⊢
  generalize w.heap.size + 1 = g4 at HS ⊢
  generalize w.heap.size = g2 at HS ⊢
  go_loopw [6] (fun iv wr => ∃ k : Nat, k ≤ 16 ∧ iv = .int .i64 k ∧ Aside0 (RW w g2 g4 g5 S.l (fillW b.data.toList k) wr)) (fun iv _ => 16 - (intOf iv).toNat)
  case atStart => exact ⟨0, Nat.zero_le _, rfl, HS⟩
  case round =>
    obtain ⟨k, hk, rfl, HBW⟩ := hrel
    by_cases hlt : k < 16
    · have hc := HBW.out.cell k (by omega)
      have hc1 := hc.1
      have hc2 := hc.2
      clear hc
      have HSet := Aside0.mk (HBW.out.set k (wordV b.data.toList k))
      have p0 : (0 : Int) ≤ 4 * (k : Int) := by omega
      have p1 : (4 : Int) * (k : Int) < 64 := by omega
      have p2 : (0 : Int) ≤ 4 * (k : Int) + 1 := by omega
      have p3 : (4 : Int) * (k : Int) + 1 < 64 := by omega
      have p4 : (0 : Int) ≤ 4 * (k : Int) + 2 := by omega
      have p5 : (4 : Int) * (k : Int) + 2 < 64 := by omega
      have p6 : (0 : Int) ≤ 4 * (k : Int) + 3 := by omega
      have p7 : (4 : Int) * (k : Int) + 3 < 64 := by omega
      have p8 : (0 : Int) ≤ (k : Int) := by omega
      have p9 : (k : Int) < 64 := by omega
      go_upto_region 5 with fail
      go_region
      go_wp2
      go_roundw
      case rel =>
        refine ⟨k + 1, by omega, by go_num, ?_⟩
        rw [word_walk]
        refine ⟨?_⟩
        have h := HSet.out
        rw [word_at b k (by omega) (by omega) (by omega) (by omega)] at h
        have e : fillW b.data.toList (k + 1) = (fillW b.data.toList k).set k (wordV b.data.toList k) := rfl
        rw [e, word_at b k (by omega) (by omega) (by omega) (by omega)]
        exact h.drew
      case measure => simp [intOf]; omega
    · have hk16 : k = 16 := by omega
      have hge : (16 : Int) ≤ (k : Int) := by omega
      rw [hk16] at HBW
      clear hlt hk hk16
      obtain ⟨k1, hk1⟩ : ∃ x : Int, (k : Int) = x := ⟨_, rfl⟩
      rw [hk1] at hge ⊢
      clear hk1
      go_wp2
      go_loopw [7] (fun iv wr => ∃ j : Nat, j ≤ 48 ∧ iv = .int .i64 ((j + 16 : Nat) : Int) ∧ Aside0 (RW w g2 g4 g5 S.l (schedW b.data.toList j) wr)) (fun iv _ => 64 - (intOf iv).toNat)
      case atStart => exact ⟨0, Nat.zero_le _, rfl, HBW⟩
      case round =>
        clear HBW
        obtain ⟨j, hj, rfl, HBW⟩ := hrel
        obtain ⟨k, hk⟩ : ∃ k, j + 16 = k := ⟨_, rfl⟩
        rw [hk]
        by_cases hlt : k < 64
        · have HN := Aside0.mk (show schedW b.data.toList (j + 1) = (schedW b.data.toList j).set k (nextV (schedW b.data.toList j) k) by rw [← hk]; rfl)
          generalize schedW b.data.toList j = W at *
          have HSet := Aside0.mk (HBW.out.set k (nextV W k))
          have hc := HBW.out.cell k (by omega)
          have hc1 := hc.1
          have hc2 := hc.2
          have hc3 := (HBW.out.cell (k - 2) (by omega)).1
          have hc4 := (HBW.out.cell (k - 15) (by omega)).1
          have hc5 := (HBW.out.cell (k - 7) (by omega)).1
          have hc6 := (HBW.out.cell (k - 16) (by omega)).1
          clear hc
          unfold nextV at HSet HN
          generalize W.getD (k - 2) 0 = x2 at *
          generalize W.getD (k - 15) 0 = x15 at *
          generalize W.getD (k - 7) 0 = x7 at *
          generalize W.getD (k - 16) 0 = x16 at *
          have p0 : (0 : Int) ≤ (k : Int) - 2 := by omega
          have p1 : (k : Int) - 2 < 64 := by omega
          have p2 : (0 : Int) ≤ (k : Int) - 15 := by omega
          have p3 : (k : Int) - 15 < 64 := by omega
          have p4 : (0 : Int) ≤ (k : Int) - 7 := by omega
          have p5 : (k : Int) - 7 < 64 := by omega
          have p6 : (0 : Int) ≤ (k : Int) - 16 := by omega
          have p7 : (k : Int) - 16 < 64 := by omega
          have p8 : (0 : Int) ≤ (k : Int) := by omega
          have p9 : (k : Int) < 64 := by omega
          have t0 : ((k : Int) - 2).toNat = k - 2 := by omega
          have t1 : ((k : Int) - 15).toNat = k - 15 := by omega
          have t2 : ((k : Int) - 7).toNat = k - 7 := by omega
          have t3 : ((k : Int) - 16).toNat = k - 16 := by omega
          go_upto_region 9 with fail
          go_region
          go_upto_region 10 with fail
          have q7 : IntKind.i64.wrap ((k : Int) - 7) = ((k - 7 : Nat) : Int) := sub_wrap k 7 (by omega) (by omega)
          have q16 : IntKind.i64.wrap ((k : Int) - 16) = ((k - 16 : Nat) : Int) := sub_wrap k 16 (by omega) (by omega)
          have p10 : (0 : Int) ≤ ((k - 7 : Nat) : Int) := by omega
          have p11 : ((k - 7 : Nat) : Int) < 64 := by omega
          have p12 : (0 : Int) ≤ ((k - 16 : Nat) : Int) := by omega
          have p13 : ((k - 16 : Nat) : Int) < 64 := by omega
          have e7 : (⟨g5, k, none⟩ : Addr) ≠ ⟨g5, k - 7, none⟩ := fun h9 => by injection h9; omega
          have e16 : (⟨g5, k, none⟩ : Addr) ≠ ⟨g5, k - 16, none⟩ := fun h9 => by injection h9; omega
          go_region_held3 (fun w' => w'.cell? ⟨g5, k - 7, none⟩ = some (.int .u32 (x7.toNat : Int)) ∧ w'.cell? ⟨g5, k - 16, none⟩ = some (.int .u32 (x16.toNat : Int))) (first | exact ⟨hc5, hc6⟩ | exact ⟨(World.cell?_setCell_other _ _ _ _ e7).trans hc5, (World.cell?_setCell_other _ _ _ _ e16).trans hc6⟩ | go_keep) (first | (go_at_call 72; refine (ref_ror_any _ _ (by decide) _).mono ?_; rintro e1 w1 ⟨rfl, m1, rfl⟩))
          go_wp2
          go_roundw
          case rel =>
            refine ⟨j + 1, by omega, ?_, ?_⟩
            · go_num <;> omega
            · rw [HN.out]
              have h := HSet.out
              rw [← next_walk x2 x7 x15 x16] at h
              exact ⟨h.drewN _⟩
          case measure => simp [intOf]; omega
        · have hge2 : (64 : Int) ≤ (k : Int) := by omega
          obtain rfl : j = 48 := by omega
          clear hk hlt hj
          obtain ⟨k2, hk2⟩ : ∃ x : Int, (k : Int) = x := ⟨_, rfl⟩
          rw [hk2] at hge2 ⊢
          clear hk2
          generalize hW : schedW b.data.toList 48 = W at *
          have HW := Aside0.mk hW
          clear hW
          go_upto_region 12 with (first | (go_at_call 73; refine (ref_const_any _).mono ?_; rintro e w1 ⟨rfl, hB⟩; have HB := Aside0.mk hB; clear hB) | (refine wpList_store_row rfl 101 _ _ rfl _ (cvs kV) rfl rfl _ _ (heap_alloc_new _ _) (by kernel_rfl) cvs_k.symm (cvs_one _) ?_))
          generalize #[Value.int IntKind.u32 0, _, _, _, _, _, _, _, _, _, _, _, _, _, _, _, _, _, _, _, _, _, _, _, _, _, _, _, _, _, _, _, _, _, _, _, _, _, _, _, _, _, _, _, _, _, _, _, _, _, _, _, _, _, _, _, _, _, _, _, _, _, _, _] = zs
          obtain ⟨q1, q2, q3⟩ := rv_k (zs := zs) HBW.out HB.out
          obtain ⟨g10, hg10⟩ : ∃ g, w1.heap.size = g := ⟨_, rfl⟩
          rw [hg10] at q1 q2 q3 ⊢
          clear hg10 HB HBW
          generalize (w1.alloc (Obj.cells zs 101)).setRow g10 (cvs kV) = w2 at *
          have Q1 := Aside0.mk q1
          have hs2 := q1.s
          have Q2 := Aside0.mk q2
          have Q3 := Aside0.mk q3
          clear q1 q2 q3
          go_upto_region 13 with (first | (refine wpList_load_row rfl 86 _ rfl g2 rfl 86 (cvs S.l) (0, 0) _ hs2 Try.underlying86 rfl (by kernel_rfl) ?_) | (refine wpList_store_row rfl 86 _ _ rfl _ (cvs S.l) rfl rfl _ _ (heap_alloc_new _ _) (by kernel_rfl) rfl (cvs_one _) ?_))
          generalize #[Value.int IntKind.u32 0, _, _, _, _, _, _, _] = zs8
          have HV := Aside0.mk (rv_v (zs := zs8) S Q1.out Q2.out Q3.out)
          obtain ⟨g11, hg11⟩ : ∃ g, w2.heap.size = g := ⟨_, rfl⟩
          rw [hg11] at HV ⊢
          clear hs2 hg11 Q1 Q2 Q3
          generalize (w2.alloc (Obj.cells zs8 86)).setRow g11 (cvs S.l) = w3 at *
          go_wp2
          go_loopw [12] (fun iv wr => ∃ t : Nat, t ≤ 64 ∧ iv = .int .i64 t ∧ Aside0 (RV w g2 g4 g5 g10 g11 S.l W (roundsV W S t) wr)) (fun iv _ => 64 - (intOf iv).toNat)
          case atStart => exact ⟨0, Nat.zero_le _, rfl, HV⟩
          case round =>
            clear HV
            obtain ⟨t, ht, rfl, HBV⟩ := hrel
            by_cases hlt : t < 64
            · --R3
              have HN := Aside0.mk (show roundsV W S (t + 1) = roundV (kV.getD t 0) (W.getD t 0) (roundsV W S t) from rfl)
              generalize roundsV W S t = X at *
              obtain ⟨xa, xb, xc, xd, xe, xf, xg, xh⟩ := X
              have hk := HBV.out.ck t hlt
              have hw := (HBV.out.rw.cell t hlt).1
              generalize kV.getD t 0 = kt at *
              generalize W.getD t 0 = wt at *
              have ca := HBV.out.c 0 xa rfl
              have cb := HBV.out.c 1 xb rfl
              have cc := HBV.out.c 2 xc rfl
              have cd := HBV.out.c 3 xd rfl
              have ce := HBV.out.c 4 xe rfl
              have cf := HBV.out.c 5 xf rfl
              have cg := HBV.out.c 6 xg rfl
              have ch := HBV.out.c 7 xh rfl
              have p8 : (0 : Int) ≤ (t : Int) := by omega
              have p9 : (t : Int) < 64 := by omega
              go_upto_region 16 with fail
              go_region
              go_upto_region 17 with fail
              go_region_held3 (fun w' => w'.cell? ⟨g11, 7, none⟩ = some (.int .u32 (xh.toNat : Int)) ∧ w'.cell? ⟨g11, 5, none⟩ = some (.int .u32 (xf.toNat : Int)) ∧ w'.cell? ⟨g11, 6, none⟩ = some (.int .u32 (xg.toNat : Int)) ∧ w'.cell? ⟨g10, t, none⟩ = some (.int .u32 (kt.toNat : Int)) ∧ w'.cell? ⟨g5, t, none⟩ = some (.int .u32 (wt.toNat : Int))) (first | exact ⟨ch, cf, cg, hk, hw⟩ | go_keep) (first | (go_at_call 72; refine (ref_ror_any _ _ (by decide) _).mono ?_; rintro e1 w1 ⟨rfl, m1, rfl⟩))
              go_upto_region 18 with fail
              go_region_held3 (fun w' => w'.cell? ⟨g11, 1, none⟩ = some (.int .u32 (xb.toNat : Int)) ∧ w'.cell? ⟨g11, 2, none⟩ = some (.int .u32 (xc.toNat : Int))) (first | exact ⟨cb, cc⟩ | go_keep) (first | (go_at_call 72; refine (ref_ror_any _ _ (by decide) _).mono ?_; rintro e1 w1 ⟨rfl, m1, rfl⟩))
              go_upto_region 19 with fail
              rw [one_walk xe xf xg xh kt wt, two_walk xa xb xc]
              have HN2 := Aside0.mk (show roundV kt wt ⟨xa, xb, xc, xd, xe, xf, xg, xh⟩ = ⟨(xh + (rorV xe 6 ^^^ rorV xe 11 ^^^ rorV xe 25) + ((xe &&& xf) ^^^ (~~~ xe &&& xg)) + kt + wt) + ((rorV xa 2 ^^^ rorV xa 13 ^^^ rorV xa 22) + ((xa &&& xb) ^^^ (xa &&& xc) ^^^ (xb &&& xc))), xa, xb, xc, xd + (xh + (rorV xe 6 ^^^ rorV xe 11 ^^^ rorV xe 25) + ((xe &&& xf) ^^^ (~~~ xe &&& xg)) + kt + wt), xe, xf, xg⟩ from rfl)
              generalize xh + (rorV xe 6 ^^^ rorV xe 11 ^^^ rorV xe 25) + ((xe &&& xf) ^^^ (~~~ xe &&& xg)) + kt + wt = one at *
              generalize (rorV xa 2 ^^^ rorV xa 13 ^^^ rorV xa 22) + ((xa &&& xb) ^^^ (xa &&& xc) ^^^ (xb &&& xc)) = two at *
              have f0 := HBV.out.f 0
              have f1 := HBV.out.f 1
              have f2 := HBV.out.f 2
              have f3 := HBV.out.f 3
              have f4 := HBV.out.f 4
              have f5 := HBV.out.f 5
              have f6 := HBV.out.f 6
              have f7 := HBV.out.f 7
              go_wp2
              go_roundw
              case rel =>
                refine ⟨t + 1, by omega, by go_num, ?_⟩
                rw [HN.out, HN2.out, addM, addM]
                exact ⟨(HBV.out.drewN _).set8 _ _ _ _ _ _ _ _⟩
              case measure => simp [intOf]; omega
            · --E3
              have hge3 : (64 : Int) ≤ (t : Int) := by omega
              obtain rfl : t = 64 := by omega
              clear ht hlt
              obtain ⟨k3, hk3⟩ : ∃ x : Int, (((64 : Nat) : Int)) = x := ⟨_, rfl⟩
              rw [hk3] at hge3 ⊢
              clear hk3
              obtain ⟨X, hX⟩ : ∃ X, roundsV W S 64 = X := ⟨_, rfl⟩
              rw [hX] at HBV
              have HX := Aside0.mk hX
              clear hX
              go_wp2
              go_loopw [178] (fun iv wr => ∃ i : Nat, i ≤ 8 ∧ iv = .int .i64 i ∧ Aside0 (RV w g2 g4 g5 g10 g11 (mixL S X i) W X wr)) (fun iv _ => 8 - (intOf iv).toNat)
              case atStart => exact ⟨0, Nat.zero_le _, rfl, HBV⟩
              case round =>
                clear HBV
                obtain ⟨i, hi, rfl, HBV⟩ := hrel
                by_cases hlt : i < 8
                · have hcs := HBV.out.cs i (by rw [mixL_len]; exact hlt)
                  have h1 := hcs.1
                  have h2 := hcs.2
                  rw [mixL_at S X i hlt] at h1
                  clear hcs
                  have h3 : wr.cell? ⟨g11, i, none⟩ = some (.int .u32 ((X.l.getD i 0).toNat : Int)) := (cell_of_row _ _ _ _ _ _ HBV.out.v).trans (cvs_get _ _ hlt)
                  have HSet := Aside0.mk (HBV.out.sets i (S.l.getD i 0 + X.l.getD i 0))
                  have HN := Aside0.mk (show mixL S X (i + 1) = (mixL S X i).set i (S.l.getD i 0 + X.l.getD i 0) from rfl)
                  generalize S.l.getD i 0 = sv at *
                  generalize X.l.getD i 0 = xv at *
                  have p8 : (0 : Int) ≤ (i : Int) := by omega
                  have p9 : (i : Int) < 8 := by omega
                  go_upto_region 23 with fail
                  go_region
                  go_wp2
                  go_roundw
                  case rel =>
                    refine ⟨i + 1, by omega, by go_num, ?_⟩
                    rw [HN.out, addM]
                    exact ⟨HSet.out.drew⟩
                  case measure => simp [intOf]; omega
                · have hge4 : (8 : Int) ≤ (i : Int) := by omega
                  obtain rfl : i = 8 := by omega
                  go_upto_region 25 with fail
                  have hs3 : wr.heap[g2]? = some (.cells (cvs (S.add X).l) 86 (0, 0)) := HBV.out.rw.s
                  have hr3 := HBV.out.rw.r
                  have e : blockV S b.data.toList = S.add X := by
                    unfold blockV
                    rw [HW.out, HX.out]
                  have he := Aside0.mk e
                  have hbel := Aside0.mk (store_below HBV.out.rw.kb g4 (cvs (S.add X).l) (by have := HBV.out.rw.lt; omega))
                  clear e
                  go_wp2_with (first | (refine wpList_load_row rfl 86 _ rfl g2 rfl 86 (cvs (S.add X).l) (0, 0) _ hs3 Try.underlying86 rfl (by kernel_rfl) ?_) | (refine wpList_store_row rfl 86 _ _ rfl g4 (cvs (S.add X).l) rfl rfl _ _ hr3 (by kernel_rfl) rfl (cvs_one _) ?_))
                  refine bodyPost_ret (v := .agg (cvs (S.add X).l)) (results_cell_row rfl _ _ g4 86 (cvs (S.add X).l) (0, 0) _ rfl (setRow_heap _ _ _ _ _ _ hr3) Try.underlying86 rfl (by kernel_rfl)) rfl ?_
                  rw [he.out]
                  exact ⟨rfl, hbel.out⟩
end Go.Proofs.Ytehnpmkfgdmmmaa.Sha
