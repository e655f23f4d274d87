/- Walks: a block of mac's state. -/
import Derived.Test.YtehnpmkfgdmmmaaMcA
import Derived.Deep.DrawnRows
import Derived.BigRegion
import Derived.BigQuiet
import Derived.Deep.RegionHeld3
namespace Go.Proofs.Ytehnpmkfgdmmmaa.Sha
open Go Go.RowKit Go.Proofs.Ytehnpmkfgdmmmaa Go.Proofs.YtehnpmkfgdmmmaaW.PrintWords
set_option linter.unusedVariables false
set_option linter.unusedSimpArgs false

/-- A world in which one old block may have changed. -/
structure Kb (h : Nat) (w w' : World) : Prop where
  os : w'.os = w.os
  tape : w'.tape = w.tape
  output : w'.output = w.output
  size : w.heap.size ≤ w'.heap.size
  block : ∀ k, k < w.heap.size → k ≠ h → w'.heap[k]? = w.heap[k]?

theorem Kb.refl (h : Nat) (w : World) : Kb h w w := ⟨rfl, rfl, rfl, Nat.le_refl _, fun _ _ _ => rfl⟩
theorem Kb.of_below {h : Nat} {w w' : World} (k : Below w.heap.size w w') : Kb h w w' := ⟨k.os, k.tape, k.output, k.size, fun i hi _ => k.block i hi⟩
theorem Kb.row {h : Nat} {w w' : World} (k : Kb h w w') (g : Nat) (cs : Array Value) (hg : w.heap.size ≤ g ∨ g = h) : Kb h w (w'.setRow g cs) :=
  ⟨k.os, k.tape, k.output, by rw [size_setRow]; exact k.size, fun i hi hn => (setRow_other w' g i cs (by omega)).trans (k.block i hi hn)⟩
theorem Kb.cell {h : Nat} {w w' : World} (k : Kb h w w') (p : Addr) (v : Value) (hg : w.heap.size ≤ p.block ∨ p.block = h) : Kb h w (w'.setCell p v) :=
  ⟨k.os, k.tape, k.output, by rw [World.size_setCell]; exact k.size, fun i hi hn => (heap_setCell_other w' p i v (by omega)).trans (k.block i hi hn)⟩
theorem Kb.alloc {h : Nat} {w w' : World} (k : Kb h w w') (o : Obj) : Kb h w (w'.alloc o) :=
  ⟨k.os, k.tape, k.output, by have := k.size; show w.heap.size ≤ (w'.heap.push o).size; simp; omega, fun i hi hn => (Go.heap_alloc_old w' o (by have := k.size; omega)).trans (k.block i hi hn)⟩
theorem Kb.drew {h : Nat} {w w' : World} (k : Kb h w w') : Kb h w w'.drew := ⟨k.os, k.tape, k.output, k.size, k.block⟩
theorem Kb.drewN {h : Nat} {w w' : World} (k : Kb h w w') (n : Nat) : Kb h w (w'.drewN n) := ⟨k.os, k.tape, k.output, k.size, k.block⟩

/-- mac.block's memory, from its rows on. -/
structure BW (w0 : World) (h g4 g5 : Nat) (cs : Array Value) (ty : TypeId) (W : List V) (wr : World) : Prop where
  s : wr.heap[h]? = some (.cells cs ty (0, 0))
  k : wr.heap[g4]? = some (.cells (cvs kV) 101 (0, 0))
  w : wr.heap[g5]? = some (.cells (cvs W) 101 (0, 0))
  len : W.length = 64
  kb : Kb h w0 wr
  lt : h < g4 ∧ g4 < g5 ∧ w0.heap.size ≤ g4
theorem BW.set {w0 : World} {h g4 g5 : Nat} {cs : Array Value} {ty : TypeId} {W : List V} {wr : World} (H : BW w0 h g4 g5 cs ty W wr) (i : Nat) (x : V) : BW w0 h g4 g5 cs ty (W.set i x) (wr.setCell ⟨g5, i, none⟩ (.int .u32 (x.toNat : Int))) := by
  have l := H.lt
  refine ⟨(heap_setCell_other _ _ _ _ (by show h ≠ g5; omega)).trans H.s, (heap_setCell_other _ _ _ _ (by show g4 ≠ g5; omega)).trans H.k, ?_, by rw [List.length_set]; exact H.len, H.kb.cell _ _ (by show _ ≤ g5 ∨ g5 = h; omega), H.lt⟩
  rw [← cvs_set]
  exact heap_setCell_same _ _ _ _ _ _ H.w
theorem BW.cell {w0 : World} {h g4 g5 : Nat} {cs : Array Value} {ty : TypeId} {W : List V} {wr : World} (H : BW w0 h g4 g5 cs ty W wr) (i : Nat) (hi : i < 64) : wr.cell? ⟨g5, i, none⟩ = some (.int .u32 ((W.getD i 0).toNat : Int)) ∧ wr.frozen? ⟨g5, i, none⟩ = false :=
  ⟨(cell_of_row _ _ _ _ _ _ H.w).trans (cvs_get _ _ (by rw [H.len]; exact hi)), frozen_of_row _ _ _ _ _ H.w⟩
theorem BW.drew {w0 : World} {h g4 g5 : Nat} {cs : Array Value} {ty : TypeId} {W : List V} {wr : World} (H : BW w0 h g4 g5 cs ty W wr) : BW w0 h g4 g5 cs ty W wr.drew := ⟨H.s, H.k, H.w, H.len, H.kb.drew, H.lt⟩
theorem BW.drewN {w0 : World} {h g4 g5 : Nat} {cs : Array Value} {ty : TypeId} {W : List V} {wr : World} (H : BW w0 h g4 g5 cs ty W wr) (n : Nat) : BW w0 h g4 g5 cs ty W (wr.drewN n) := ⟨H.s, H.k, H.w, H.len, H.kb.drewN n, H.lt⟩
theorem BW.rng {w0 : World} {h g4 g5 : Nat} {cs rest : Array Value} {ty : TypeId} {W : List V} {wr : World} (H : BW w0 h g4 g5 cs ty W wr) (S : S8) (hc : cs = cvs S.l ++ rest) : wr.rangeAt h 0 (S.l.map fun x => Value.int .u32 (x.toNat : Int)) := by
  intro j v hv
  rw [Nat.zero_add, cell_of_row _ _ _ _ _ _ H.s, hc]
  have hj : j < (cvs S.l).size := by
    have := (List.getElem?_eq_some_iff.1 hv).1
    rw [cvs_size]; rwa [List.length_map] at this
  rw [Array.getElem?_append_left hj]
  simpa [cvs] using hv
theorem bw_start {w w1 : World} {h : Nat} {cs zs : Array Value} {ty : TypeId} (hh : w.heap[h]? = some (.cells cs ty (0, 0))) (hB : Below w.heap.size w w1) :
    BW w h w1.heap.size (w1.heap.size + 1) cs ty (List.replicate 64 0) (((w1.alloc (.cells zs 101)).setRow w1.heap.size (cvs kV)).alloc (.cells (cvs (List.replicate 64 0)) 101)) ∧ ((w1.alloc (.cells zs 101)).setRow w1.heap.size (cvs kV)).heap.size = w1.heap.size + 1 := by
  have hlt : h < w.heap.size := (Array.getElem?_eq_some_iff.1 hh).1
  have hz := hB.size
  have hs : ((w1.alloc (.cells zs 101)).setRow w1.heap.size (cvs kV)).heap.size = w1.heap.size + 1 := by
    rw [size_setRow]; show (w1.heap.push _).size = _; simp
  have hn := heap_alloc_new ((w1.alloc (.cells zs 101)).setRow w1.heap.size (cvs kV)) (.cells (cvs (List.replicate 64 0)) 101)
  rw [hs] at hn
  refine ⟨⟨?_, ?_, hn, List.length_replicate, (((Kb.of_below hB).alloc _).row _ _ (.inl hz)).alloc _, by omega⟩, hs⟩
  · rw [Go.heap_alloc_old _ _ (by rw [hs]; omega), setRow_other _ _ _ _ (by omega), Go.heap_alloc_old _ _ (by omega), hB.block h hlt]; exact hh
  · rw [Go.heap_alloc_old _ _ (by rw [hs]; omega)]; exact row_new _ _ _ _

theorem addM (x y : V) : ((x.toNat : Int) + (y.toNat : Int)) % 4294967296 = ((x + y).toNat : Int) := addV x y
theorem word_walk (c0 c1 c2 c3 : UInt8) : Go.bits .or .u32 (Go.bits .or .u32 (Go.bits .or .u32 ((c0.toNat : Int) % 4294967296 * 16777216 % 4294967296) ((c1.toNat : Int) % 4294967296 * 65536 % 4294967296)) ((c2.toNat : Int) % 4294967296 * 256 % 4294967296)) ((c3.toNat : Int) % 4294967296) = (((cV c0 <<< 24) ||| (cV c1 <<< 16) ||| (cV c2 <<< 8) ||| cV c3).toNat : Int) := by
  have a : ∀ c : UInt8, (c.toNat : Int) % 4294967296 = ((cV c).toNat : Int) := fun c => by
    have := c.toNat_lt
    rw [cV_nat]; omega
  have e : ∀ (x : V) (n : Nat), ((x.toNat : Int) * 2 ^ n) % 4294967296 = ((x <<< n).toNat : Int) := fun x n => shlV x n
  rw [a, a, a, a, show (16777216 : Int) = 2 ^ 24 from rfl, show (65536 : Int) = 2 ^ 16 from rfl, show (256 : Int) = 2 ^ 8 from rfl, e, e, e, orV, orV, orV]
theorem word_at (b : ByteArray) (k : Nat) (h0 : 4 * k < b.size) (h1 : 4 * k + 1 < b.size) (h2 : 4 * k + 2 < b.size) (h3 : 4 * k + 3 < b.size) : wordV b.data.toList k = (cV b[4 * k] <<< 24) ||| (cV b[4 * k + 1] <<< 16) ||| (cV b[4 * k + 2] <<< 8) ||| cV b[4 * k + 3] := by
  have e : ∀ (i : Nat) (h : i < b.size), b.data.toList.getD i 0 = b[i] := fun i h => by
    rw [List.getD_eq_getElem?_getD, Array.getElem?_toList, Array.getElem?_eq_getElem (h : i < b.data.size)]; rfl
  unfold wordV
  rw [e _ h0, e _ h1, e _ h2, e _ h3]
theorem mac_ror_any (x : V) (n : Int) (hn : 0 ≤ n ∧ n.toNat ∈ ks) (w : World) : Calls Try.prog 81 #[.int .u32 (x.toNat : Int), .int .i64 n] w fun e w' => e = .returned (.int .u32 ((rorV x n.toNat).toNat : Int)) ∧ ∃ m, w' = w.drewN m := by
  have hf := mac_ror_f x n.toNat hn.2
  rw [Int.toNat_of_nonneg hn.1] at hf
  exact (PR.mac_ror.calls _ _ _ w hf).mono fun e w' h => ⟨h.1, h.2.out⟩
theorem wrap_small (n : Nat) (h : n < 64) : IntKind.i64.wrap (n : Int) = (n : Int) := by
  revert n
  decide +kernel
theorem sub_wrap (k c : Nat) (h : c ≤ k) (h2 : k < 64) : IntKind.i64.wrap ((k : Int) - (c : Int)) = ((k - c : Nat) : Int) := by
  have e := Int.ofNat_sub h
  rw [← e]
  generalize k - c = n at *
  exact wrap_small n (by omega)
theorem next_walk (x2 x7 x15 x16 : V) : ((((Go.bits .xor .u32 (Go.bits .xor .u32 ((rorV x2 17).toNat : Int) ((rorV x2 19).toNat : Int)) ((x2.toNat : Int) / 1024) + (x7.toNat : Int)) % 4294967296) + Go.bits .xor .u32 (Go.bits .xor .u32 ((rorV x15 7).toNat : Int) ((rorV x15 18).toNat : Int)) ((x15.toNat : Int) / 8)) % 4294967296 + (x16.toNat : Int)) % 4294967296 = ((s0 x2 + x7 + s1 x15 + x16).toNat : Int) := by
  rw [show (1024 : Int) = 2 ^ 10 from rfl, show (8 : Int) = 2 ^ 3 from rfl, shrV, shrV, xorV, xorV, xorV, xorV, addM, addM, addM]
  rfl

theorem notM (e : V) : Go.bits .xor .u32 IntKind.u32.max (e.toNat : Int) = ((~~~ e).toNat : Int) := by
  have h := xorV (BitVec.allOnes 32) e
  rw [BitVec.allOnes_xor] at h
  exact h
theorem one_walk (xe xf xg xh kt wt : V) : IntKind.u32.wrap (IntKind.u32.wrap (IntKind.u32.wrap (IntKind.u32.wrap ((xh.toNat : Int) + Go.bits .xor .u32 (Go.bits .xor .u32 ((rorV xe 6).toNat : Int) ((rorV xe 11).toNat : Int)) ((rorV xe 25).toNat : Int)) + Go.bits .xor .u32 (Go.bits .and .u32 (xe.toNat : Int) (xf.toNat : Int)) (Go.bits .and .u32 (Go.bits .xor .u32 IntKind.u32.max (xe.toNat : Int)) (xg.toNat : Int))) + (kt.toNat : Int)) + (wt.toNat : Int)) = ((xh + (rorV xe 6 ^^^ rorV xe 11 ^^^ rorV xe 25) + ((xe &&& xf) ^^^ (~~~ xe &&& xg)) + kt + wt).toNat : Int) := by
  rw [notM, xorV, xorV, andV, andV, xorV, addV, addV, addV, addV]
theorem two_walk (xa xb xc : V) : IntKind.u32.wrap (Go.bits .xor .u32 (Go.bits .xor .u32 ((rorV xa 2).toNat : Int) ((rorV xa 13).toNat : Int)) ((rorV xa 22).toNat : Int) + Go.bits .xor .u32 (Go.bits .xor .u32 (Go.bits .and .u32 (xa.toNat : Int) (xb.toNat : Int)) (Go.bits .and .u32 (xa.toNat : Int) (xc.toNat : Int))) (Go.bits .and .u32 (xb.toNat : Int) (xc.toNat : Int))) = (((rorV xa 2 ^^^ rorV xa 13 ^^^ rorV xa 22) + ((xa &&& xb) ^^^ (xa &&& xc) ^^^ (xb &&& xc))).toNat : Int) := by
  rw [xorV, xorV, andV, andV, andV, xorV, xorV, addV]
/-- .. and the row of the rounds. -/
structure BV (w0 : World) (h g4 g5 g10 : Nat) (cs : Array Value) (ty : TypeId) (W : List V) (X : S8) (wr : World) : Prop where
  bw : BW w0 h g4 g5 cs ty W wr
  v : wr.heap[g10]? = some (.cells (cvs X.l) 93 (0, 0))
  lt : g5 < g10
theorem bv_start {w0 : World} {h g4 g5 : Nat} {cs zs : Array Value} {ty : TypeId} {W : List V} {wr : World} (H : BW w0 h g4 g5 cs ty W wr) (X : S8) : BV w0 h g4 g5 wr.heap.size cs ty W X ((wr.alloc (.cells zs 93)).setRow wr.heap.size (cvs X.l)) := by
  have l5 : g5 < wr.heap.size := (Array.getElem?_eq_some_iff.1 H.w).1
  have l := H.lt
  have e : ∀ i, i < wr.heap.size → ((wr.alloc (.cells zs 93)).setRow wr.heap.size (cvs X.l)).heap[i]? = wr.heap[i]? := fun i hi => by
    rw [setRow_other _ _ _ _ (by omega), Go.heap_alloc_old _ _ hi]
  have hk := H.kb.size
  exact ⟨⟨(e h (by omega)).trans H.s, (e g4 (by omega)).trans H.k, (e g5 l5).trans H.w, H.len, (H.kb.alloc _).row _ _ (by omega), H.lt⟩, row_new _ _ _ _, l5⟩
theorem BV.drewN {w0 : World} {h g4 g5 g10 : Nat} {cs : Array Value} {ty : TypeId} {W : List V} {X : S8} {wr : World} (H : BV w0 h g4 g5 g10 cs ty W X wr) (n : Nat) : BV w0 h g4 g5 g10 cs ty W X (wr.drewN n) := ⟨H.bw.drewN n, H.v, H.lt⟩
theorem BV.c {w0 : World} {h g4 g5 g10 : Nat} {cs : Array Value} {ty : TypeId} {W : List V} {X : S8} {wr : World} (H : BV w0 h g4 g5 g10 cs ty W X wr) (i : Nat) (x : V) (hi : X.l[i]? = some x) : wr.cell? ⟨g10, i, none⟩ = some (.int .u32 (x.toNat : Int)) := by
  rw [cell_of_row _ _ _ _ _ _ H.v]
  simp [cvs, hi]
theorem BV.f {w0 : World} {h g4 g5 g10 : Nat} {cs : Array Value} {ty : TypeId} {W : List V} {X : S8} {wr : World} (H : BV w0 h g4 g5 g10 cs ty W X wr) (i : Nat) : wr.frozen? ⟨g10, i, none⟩ = false := frozen_of_row _ _ _ _ _ H.v
theorem BV.ck {w0 : World} {h g4 g5 g10 : Nat} {cs : Array Value} {ty : TypeId} {W : List V} {X : S8} {wr : World} (H : BV w0 h g4 g5 g10 cs ty W X wr) (i : Nat) (hi : i < 64) : wr.cell? ⟨g4, i, none⟩ = some (.int .u32 ((kV.getD i 0).toNat : Int)) :=
  (cell_of_row _ _ _ _ _ _ H.bw.k).trans (cvs_get _ _ (by rw [kV_len]; exact hi))
theorem BV.set1 {w0 : World} {h g4 g5 g10 : Nat} {cs : Array Value} {ty : TypeId} {W : List V} {X Y : S8} {wr : World} (H : BV w0 h g4 g5 g10 cs ty W X wr) (i : Nat) (x : V) (hY : X.l.set i x = Y.l) : BV w0 h g4 g5 g10 cs ty W Y (wr.setCell ⟨g10, i, none⟩ (.int .u32 (x.toNat : Int))) := by
  have l := H.bw.lt
  have l2 := H.lt
  refine ⟨⟨(heap_setCell_other _ _ _ _ (by show h ≠ g10; omega)).trans H.bw.s, (heap_setCell_other _ _ _ _ (by show g4 ≠ g10; omega)).trans H.bw.k, (heap_setCell_other _ _ _ _ (by show g5 ≠ g10; omega)).trans H.bw.w, H.bw.len, H.bw.kb.cell _ _ (by show _ ≤ g10 ∨ g10 = h; omega), H.bw.lt⟩, ?_, H.lt⟩
  rw [← hY, ← cvs_set]
  exact heap_setCell_same _ _ _ _ _ _ H.v
theorem BV.set8 {w0 : World} {h g4 g5 g10 : Nat} {cs : Array Value} {ty : TypeId} {W : List V} {X : S8} {wr : World} (H : BV w0 h g4 g5 g10 cs ty W X wr) (a b c d e f g i : V) :
    BV w0 h g4 g5 g10 cs ty W ⟨a, b, c, d, e, f, g, i⟩ ((((((((wr.setCell ⟨g10, 0, none⟩ (.int .u32 (a.toNat : Int))).setCell ⟨g10, 1, none⟩ (.int .u32 (b.toNat : Int))).setCell ⟨g10, 2, none⟩ (.int .u32 (c.toNat : Int))).setCell ⟨g10, 3, none⟩ (.int .u32 (d.toNat : Int))).setCell ⟨g10, 4, none⟩ (.int .u32 (e.toNat : Int))).setCell ⟨g10, 5, none⟩ (.int .u32 (f.toNat : Int))).setCell ⟨g10, 6, none⟩ (.int .u32 (g.toNat : Int))).setCell ⟨g10, 7, none⟩ (.int .u32 (i.toNat : Int))) := by
  obtain ⟨xa, xb, xc, xd, xe, xf, xg, xh⟩ := X
  have h0 : BV w0 h g4 g5 g10 cs ty W ⟨a, xb, xc, xd, xe, xf, xg, xh⟩ _ := H.set1 0 a rfl
  have h1 : BV w0 h g4 g5 g10 cs ty W ⟨a, b, xc, xd, xe, xf, xg, xh⟩ _ := h0.set1 1 b rfl
  have h2 : BV w0 h g4 g5 g10 cs ty W ⟨a, b, c, xd, xe, xf, xg, xh⟩ _ := h1.set1 2 c rfl
  have h3 : BV w0 h g4 g5 g10 cs ty W ⟨a, b, c, d, xe, xf, xg, xh⟩ _ := h2.set1 3 d rfl
  have h4 : BV w0 h g4 g5 g10 cs ty W ⟨a, b, c, d, e, xf, xg, xh⟩ _ := h3.set1 4 e rfl
  have h5 : BV w0 h g4 g5 g10 cs ty W ⟨a, b, c, d, e, f, xg, xh⟩ _ := h4.set1 5 f rfl
  have h6 : BV w0 h g4 g5 g10 cs ty W ⟨a, b, c, d, e, f, g, xh⟩ _ := h5.set1 6 g rfl
  exact h6.set1 7 i rfl

def mixL (S X : S8) : Nat → List V
  | 0 => S.l
  | i + 1 => (mixL S X i).set i (S.l.getD i 0 + X.l.getD i 0)
theorem mixL_len (S X : S8) : ∀ i, (mixL S X i).length = 8
  | 0 => rfl
  | i + 1 => by rw [mixL, List.length_set]; exact mixL_len S X i
theorem mixL_at (S X : S8) (i : Nat) (h : i < 8) : (mixL S X i).getD i 0 = S.l.getD i 0 := by
  match i, h with
  | 0, _ => rfl
  | 1, _ => rfl
  | 2, _ => rfl
  | 3, _ => rfl
  | 4, _ => rfl
  | 5, _ => rfl
  | 6, _ => rfl
  | 7, _ => rfl
theorem BV.cs {w0 : World} {h g4 g5 g10 : Nat} {L : List V} {rest : Array Value} {ty : TypeId} {W : List V} {X : S8} {wr : World} (H : BV w0 h g4 g5 g10 (cvs L ++ rest) ty W X wr) (i : Nat) (hi : i < L.length) : wr.cell? ⟨h, i, none⟩ = some (.int .u32 ((L.getD i 0).toNat : Int)) ∧ wr.frozen? ⟨h, i, none⟩ = false := by
  refine ⟨?_, frozen_of_row _ _ _ _ _ H.bw.s⟩
  rw [cell_of_row _ _ _ _ _ _ H.bw.s, Array.getElem?_append_left (by rw [cvs_size]; exact hi)]
  exact cvs_get _ _ hi
theorem BV.sets {w0 : World} {h g4 g5 g10 : Nat} {L : List V} {rest : Array Value} {ty : TypeId} {W : List V} {X : S8} {wr : World} (H : BV w0 h g4 g5 g10 (cvs L ++ rest) ty W X wr) (i : Nat) (hi : i < L.length) (x : V) : BV w0 h g4 g5 g10 (cvs (L.set i x) ++ rest) ty W X (wr.setCell ⟨h, i, none⟩ (.int .u32 (x.toNat : Int))) := by
  have l := H.bw.lt
  have l2 := H.lt
  refine ⟨⟨?_, (heap_setCell_other _ _ _ _ (by show g4 ≠ h; omega)).trans H.bw.k, (heap_setCell_other _ _ _ _ (by show g5 ≠ h; omega)).trans H.bw.w, H.bw.len, H.bw.kb.cell _ _ (by show _ ≤ h ∨ h = h; omega), H.bw.lt⟩, (heap_setCell_other _ _ _ _ (by show g10 ≠ h; omega)).trans H.v, H.lt⟩
  have e := heap_setCell_same _ h i _ _ (.int .u32 (x.toNat : Int)) H.bw.s
  rw [Array.setIfInBounds_append_left (by rw [cvs_size]; exact hi), cvs_set] at e
  exact e
theorem BV.drew {w0 : World} {h g4 g5 g10 : Nat} {cs : Array Value} {ty : TypeId} {W : List V} {X : S8} {wr : World} (H : BV w0 h g4 g5 g10 cs ty W X wr) : BV w0 h g4 g5 g10 cs ty W X wr.drew := ⟨H.bw.drew, H.v, H.lt⟩

set_option maxHeartbeats 1000000 in
set_option maxRecDepth 100000 in
theorem block_any (h : Nat) (S : S8) (rest : Array Value) (ty : TypeId) (b : ByteArray) (w : World) (hh : w.heap[h]? = some (.cells (cvs S.l ++ rest) ty (0, 0))) (hb : b.size = 64) :
    Calls Try.prog 68 #[.pointer (some ⟨h, 0, none⟩), .string b] w fun e w' => e = .returned (.tuple #[]) ∧ w'.heap[h]? = some (.cells (cvs (blockV S b.data.toList).l ++ rest) ty (0, 0)) ∧ Kb h w w' := by
  have Hh := Aside0.mk hh
  clear hh
  go_enter Try.func68, Try.ntmps68
  go_upto_region 1 with (first | (go_at_call 80; refine (const_any _).mono ?_; rintro e w1 ⟨rfl, hB⟩; have HB := Aside0.mk hB; clear hB) | (refine wpList_store_row rfl 101 _ _ rfl _ (cvs kV) rfl rfl _ _ (heap_alloc_new _ _) (by kernel_rfl) cvs_k.symm (cvs_one _) ?_))
  generalize #[Value.int IntKind.u32 0, _, _, _, _, _, _, _, _, _, _, _, _, _, _, _, _, _, _, _, _, _, _, _, _, _, _, _, _, _, _, _, _, _, _, _, _, _, _, _, _, _, _, _, _, _, _, _, _, _, _, _, _, _, _, _, _, _, _, _, _, _, _, _] = zs
  obtain ⟨h1, h2⟩ := bw_start (zs := zs) Hh.out HB.out
  have HS := Aside0.mk h1
  have H2 := Aside0.mk h2
  clear h1 
  generalize hg4 : w1.heap.size = g4 at *
  generalize (w1.alloc (Obj.cells zs 101)).setRow g4 (cvs kV) = w2 at *
  go_wp2
  go_loopw [18] (fun iv wr => ∃ k : Nat, k ≤ 16 ∧ iv = .int .i64 k ∧ Aside0 (BW w h g4 (g4 + 1) (cvs S.l ++ rest) ty (fillW b.data.toList k) wr)) (fun iv _ => 16 - (intOf iv).toNat)
  case atStart => exact ⟨0, Nat.zero_le _, rfl, HS⟩
  case round =>
    obtain ⟨k, hk, rfl, HBW⟩ := hrel
    by_cases hlt : k < 16
    · have hc := HBW.out.cell k (by omega)
      have hc1 := hc.1
      have hc2 := hc.2
      clear hc
      have HSet := Aside0.mk (HBW.out.set k (wordV b.data.toList k))
      have p0 : (0 : Int) ≤ 4 * (k : Int) := by omega
      have p1 : (4 : Int) * (k : Int) < 64 := by omega
      have p2 : (0 : Int) ≤ 4 * (k : Int) + 1 := by omega
      have p3 : (4 : Int) * (k : Int) + 1 < 64 := by omega
      have p4 : (0 : Int) ≤ 4 * (k : Int) + 2 := by omega
      have p5 : (4 : Int) * (k : Int) + 2 < 64 := by omega
      have p6 : (0 : Int) ≤ 4 * (k : Int) + 3 := by omega
      have p7 : (4 : Int) * (k : Int) + 3 < 64 := by omega
      have p8 : (0 : Int) ≤ (k : Int) := by omega
      have p9 : (k : Int) < 64 := by omega
      go_upto_region 5 with fail
      go_region
      go_wp2
      go_roundw
      case rel =>
        refine ⟨k + 1, by omega, by go_num, ?_⟩
        rw [word_walk]
        refine ⟨?_⟩
        have h := HSet.out
        rw [word_at b k (by omega) (by omega) (by omega) (by omega)] at h
        have e : fillW b.data.toList (k + 1) = (fillW b.data.toList k).set k (wordV b.data.toList k) := rfl
        rw [e, word_at b k (by omega) (by omega) (by omega) (by omega)]
        exact h.drew
      case measure => simp [intOf]; omega
    · have hk16 : k = 16 := by omega
      have hge : (16 : Int) ≤ (k : Int) := by omega
      rw [hk16] at HBW
      clear hlt hk hk16
      obtain ⟨k1, hk1⟩ : ∃ x : Int, (k : Int) = x := ⟨_, rfl⟩
      rw [hk1] at hge ⊢
      clear hk1
      go_wp2
      go_loopw [7] (fun iv wr => ∃ j : Nat, j ≤ 48 ∧ iv = .int .i64 ((j + 16 : Nat) : Int) ∧ Aside0 (BW w h g4 (g4 + 1) (cvs S.l ++ rest) ty (schedW b.data.toList j) wr)) (fun iv _ => 64 - (intOf iv).toNat)
      case atStart => exact ⟨0, Nat.zero_le _, rfl, HBW⟩
      case round =>
        clear HBW
        obtain ⟨j, hj, rfl, HBW⟩ := hrel
        obtain ⟨k, hk⟩ : ∃ k, j + 16 = k := ⟨_, rfl⟩
        rw [hk]
        by_cases hlt : k < 64
        · have HN := Aside0.mk (show schedW b.data.toList (j + 1) = (schedW b.data.toList j).set k (nextV (schedW b.data.toList j) k) by rw [← hk]; rfl)
          generalize schedW b.data.toList j = W at *
          have HSet := Aside0.mk (HBW.out.set k (nextV W k))
          have hc := HBW.out.cell k (by omega)
          have hc1 := hc.1
          have hc2 := hc.2
          have hc3 := (HBW.out.cell (k - 2) (by omega)).1
          have hc4 := (HBW.out.cell (k - 15) (by omega)).1
          have hc5 := (HBW.out.cell (k - 7) (by omega)).1
          have hc6 := (HBW.out.cell (k - 16) (by omega)).1
          clear hc
          unfold nextV at HSet HN
          generalize W.getD (k - 2) 0 = x2 at *
          generalize W.getD (k - 15) 0 = x15 at *
          generalize W.getD (k - 7) 0 = x7 at *
          generalize W.getD (k - 16) 0 = x16 at *
          have p0 : (0 : Int) ≤ (k : Int) - 2 := by omega
          have p1 : (k : Int) - 2 < 64 := by omega
          have p2 : (0 : Int) ≤ (k : Int) - 15 := by omega
          have p3 : (k : Int) - 15 < 64 := by omega
          have p4 : (0 : Int) ≤ (k : Int) - 7 := by omega
          have p5 : (k : Int) - 7 < 64 := by omega
          have p6 : (0 : Int) ≤ (k : Int) - 16 := by omega
          have p7 : (k : Int) - 16 < 64 := by omega
          have p8 : (0 : Int) ≤ (k : Int) := by omega
          have p9 : (k : Int) < 64 := by omega
          have t0 : ((k : Int) - 2).toNat = k - 2 := by omega
          have t1 : ((k : Int) - 15).toNat = k - 15 := by omega
          have t2 : ((k : Int) - 7).toNat = k - 7 := by omega
          have t3 : ((k : Int) - 16).toNat = k - 16 := by omega
          go_upto_region 10 with fail
          go_region
          go_upto_region 11 with fail
          have q7 : IntKind.i64.wrap ((k : Int) - 7) = ((k - 7 : Nat) : Int) := sub_wrap k 7 (by omega) (by omega)
          have q16 : IntKind.i64.wrap ((k : Int) - 16) = ((k - 16 : Nat) : Int) := sub_wrap k 16 (by omega) (by omega)
          have p10 : (0 : Int) ≤ ((k - 7 : Nat) : Int) := by omega
          have p11 : ((k - 7 : Nat) : Int) < 64 := by omega
          have p12 : (0 : Int) ≤ ((k - 16 : Nat) : Int) := by omega
          have p13 : ((k - 16 : Nat) : Int) < 64 := by omega
          have e7 : (⟨g4 + 1, k, none⟩ : Addr) ≠ ⟨g4 + 1, k - 7, none⟩ := fun h9 => by injection h9; omega
          have e16 : (⟨g4 + 1, k, none⟩ : Addr) ≠ ⟨g4 + 1, k - 16, none⟩ := fun h9 => by injection h9; omega
          go_region_held3 (fun w' => w'.cell? ⟨g4 + 1, k - 7, none⟩ = some (.int .u32 (x7.toNat : Int)) ∧ w'.cell? ⟨g4 + 1, k - 16, none⟩ = some (.int .u32 (x16.toNat : Int))) (first | exact ⟨hc5, hc6⟩ | exact ⟨(World.cell?_setCell_other _ _ _ _ e7).trans hc5, (World.cell?_setCell_other _ _ _ _ e16).trans hc6⟩ | go_keep) (first | (go_at_call 81; refine (mac_ror_any _ _ (by decide) _).mono ?_; rintro e1 w1 ⟨rfl, m1, rfl⟩))
          go_wp2
          go_roundw
          case rel =>
            refine ⟨j + 1, by omega, ?_, ?_⟩
            · go_num <;> omega
            · rw [HN.out]
              have h := HSet.out
              rw [← next_walk x2 x7 x15 x16] at h
              exact ⟨h.drewN _⟩
          case measure => simp [intOf]; omega
        · have hge2 : (64 : Int) ≤ (k : Int) := by omega
          obtain rfl : j = 48 := by omega
          clear hk hlt hj
          obtain ⟨k2, hk2⟩ : ∃ x : Int, (k : Int) = x := ⟨_, rfl⟩
          rw [hk2] at hge2 ⊢
          clear hk2
          generalize hW : schedW b.data.toList 48 = W at *
          have HW := Aside0.mk hW
          clear hW
          have HR := Aside0.mk (HBW.out.rng S rfl)
          go_upto_region 12 with fail
          have hr := HR.out
          go_upto_region 13 with (first | (refine wpList_load_mid rfl 93 _ rfl h 0 rfl (S.l.map fun x => Value.int .u32 (x.toNat : Int)) _ hr Try.underlying93 rfl (by kernel_rfl) ?_) | (refine wpList_store_row rfl 93 _ _ rfl _ (cvs S.l) rfl rfl _ _ (heap_alloc_new _ _) (by kernel_rfl) rfl (cvs_one _) ?_))
          generalize #[Value.int IntKind.u32 0, _, _, _, _, _, _, _] = zs8
          have HV := Aside0.mk (bv_start (zs := zs8) HBW.out S)
          obtain ⟨g10, hg10⟩ : ∃ g, wr.heap.size = g := ⟨_, rfl⟩
          rw [hg10] at HV ⊢
          clear hr hg10
          generalize (wr.alloc (Obj.cells zs8 93)).setRow g10 (cvs S.l) = w3 at *
          go_wp2
          go_loopw [97] (fun iv wr => ∃ t : Nat, t ≤ 64 ∧ iv = .int .i64 t ∧ Aside0 (BV w h g4 (g4 + 1) g10 (cvs S.l ++ rest) ty W (roundsV W S t) wr)) (fun iv _ => 64 - (intOf iv).toNat)
          case atStart => exact ⟨0, Nat.zero_le _, rfl, HV⟩
          case round =>
            clear HV HR HBW
            obtain ⟨t, ht, rfl, HBV⟩ := hrel
            by_cases hlt : t < 64
            · --R3
              have HN := Aside0.mk (show roundsV W S (t + 1) = roundV (kV.getD t 0) (W.getD t 0) (roundsV W S t) from rfl)
              generalize roundsV W S t = X at *
              obtain ⟨xa, xb, xc, xd, xe, xf, xg, xh⟩ := X
              have hk := HBV.out.ck t hlt
              have hw := (HBV.out.bw.cell t hlt).1
              generalize kV.getD t 0 = kt at *
              generalize W.getD t 0 = wt at *
              have ca := HBV.out.c 0 xa rfl
              have cb := HBV.out.c 1 xb rfl
              have cc := HBV.out.c 2 xc rfl
              have cd := HBV.out.c 3 xd rfl
              have ce := HBV.out.c 4 xe rfl
              have cf := HBV.out.c 5 xf rfl
              have cg := HBV.out.c 6 xg rfl
              have ch := HBV.out.c 7 xh rfl
              have p8 : (0 : Int) ≤ (t : Int) := by omega
              have p9 : (t : Int) < 64 := by omega
              go_upto_region 16 with fail
              go_region
              go_upto_region 17 with fail
              go_region_held3 (fun w' => w'.cell? ⟨g10, 7, none⟩ = some (.int .u32 (xh.toNat : Int)) ∧ w'.cell? ⟨g10, 5, none⟩ = some (.int .u32 (xf.toNat : Int)) ∧ w'.cell? ⟨g10, 6, none⟩ = some (.int .u32 (xg.toNat : Int)) ∧ w'.cell? ⟨g4, t, none⟩ = some (.int .u32 (kt.toNat : Int)) ∧ w'.cell? ⟨g4 + 1, t, none⟩ = some (.int .u32 (wt.toNat : Int))) (first | exact ⟨ch, cf, cg, hk, hw⟩ | go_keep) (first | (go_at_call 81; refine (mac_ror_any _ _ (by decide) _).mono ?_; rintro e1 w1 ⟨rfl, m1, rfl⟩))
              go_upto_region 18 with fail
              go_region_held3 (fun w' => w'.cell? ⟨g10, 1, none⟩ = some (.int .u32 (xb.toNat : Int)) ∧ w'.cell? ⟨g10, 2, none⟩ = some (.int .u32 (xc.toNat : Int))) (first | exact ⟨cb, cc⟩ | go_keep) (first | (go_at_call 81; refine (mac_ror_any _ _ (by decide) _).mono ?_; rintro e1 w1 ⟨rfl, m1, rfl⟩))
              go_upto_region 19 with fail
              rw [one_walk xe xf xg xh kt wt, two_walk xa xb xc]
              have HN2 := Aside0.mk (show roundV kt wt ⟨xa, xb, xc, xd, xe, xf, xg, xh⟩ = ⟨(xh + (rorV xe 6 ^^^ rorV xe 11 ^^^ rorV xe 25) + ((xe &&& xf) ^^^ (~~~ xe &&& xg)) + kt + wt) + ((rorV xa 2 ^^^ rorV xa 13 ^^^ rorV xa 22) + ((xa &&& xb) ^^^ (xa &&& xc) ^^^ (xb &&& xc))), xa, xb, xc, xd + (xh + (rorV xe 6 ^^^ rorV xe 11 ^^^ rorV xe 25) + ((xe &&& xf) ^^^ (~~~ xe &&& xg)) + kt + wt), xe, xf, xg⟩ from rfl)
              generalize xh + (rorV xe 6 ^^^ rorV xe 11 ^^^ rorV xe 25) + ((xe &&& xf) ^^^ (~~~ xe &&& xg)) + kt + wt = one at *
              generalize (rorV xa 2 ^^^ rorV xa 13 ^^^ rorV xa 22) + ((xa &&& xb) ^^^ (xa &&& xc) ^^^ (xb &&& xc)) = two at *
              have f0 := HBV.out.f 0
              have f1 := HBV.out.f 1
              have f2 := HBV.out.f 2
              have f3 := HBV.out.f 3
              have f4 := HBV.out.f 4
              have f5 := HBV.out.f 5
              have f6 := HBV.out.f 6
              have f7 := HBV.out.f 7
              go_wp2
              go_roundw
              case rel =>
                refine ⟨t + 1, by omega, by go_num, ?_⟩
                rw [HN.out, HN2.out, addM, addM]
                exact ⟨(HBV.out.drewN _).set8 _ _ _ _ _ _ _ _⟩
              case measure => simp [intOf]; omega
            · --E3
              have hge3 : (64 : Int) ≤ (t : Int) := by omega
              obtain rfl : t = 64 := by omega
              clear ht hlt
              obtain ⟨k3, hk3⟩ : ∃ x : Int, (((64 : Nat) : Int)) = x := ⟨_, rfl⟩
              rw [hk3] at hge3 ⊢
              clear hk3
              obtain ⟨X, hX⟩ : ∃ X, roundsV W S 64 = X := ⟨_, rfl⟩
              rw [hX] at HBV
              have HX := Aside0.mk hX
              clear hX
              go_wp2
              go_loopw [179] (fun iv wr => ∃ i : Nat, i ≤ 8 ∧ iv = .int .i64 i ∧ Aside0 (BV w h g4 (g4 + 1) g10 (cvs (mixL S X i) ++ rest) ty W X wr)) (fun iv _ => 8 - (intOf iv).toNat)
              case atStart => exact ⟨0, Nat.zero_le _, rfl, HBV⟩
              case round =>
                clear HBV
                obtain ⟨i, hi, rfl, HBV⟩ := hrel
                by_cases hlt : i < 8
                · have hcs := HBV.out.cs i (by rw [mixL_len]; exact hlt)
                  have h1 := hcs.1
                  have h2 := hcs.2
                  rw [mixL_at S X i hlt] at h1
                  clear hcs
                  have h3 : wr.cell? ⟨g10, i, none⟩ = some (.int .u32 ((X.l.getD i 0).toNat : Int)) := (cell_of_row _ _ _ _ _ _ HBV.out.v).trans (cvs_get _ _ hlt)
                  have HSet := Aside0.mk (HBV.out.sets i (by rw [mixL_len]; exact hlt) (S.l.getD i 0 + X.l.getD i 0))
                  have HN := Aside0.mk (show mixL S X (i + 1) = (mixL S X i).set i (S.l.getD i 0 + X.l.getD i 0) from rfl)
                  generalize S.l.getD i 0 = sv at *
                  generalize X.l.getD i 0 = xv at *
                  have p8 : (0 : Int) ≤ (i : Int) := by omega
                  have p9 : (i : Int) < 8 := by omega
                  go_upto_region 24 with fail
                  go_region
                  go_wp2
                  go_roundw
                  case rel =>
                    refine ⟨i + 1, by omega, by go_num, ?_⟩
                    rw [HN.out, addM]
                    exact ⟨HSet.out.drew⟩
                  case measure => simp [intOf]; omega
                · have hge4 : (8 : Int) ≤ (i : Int) := by omega
                  obtain rfl : i = 8 := by omega
                  go_wp2
                  (try simp only [Exit.inBlock, Exit.then])
                  refine bodyPost_end (results_none rfl _ _ _) rfl ?_
                  refine ⟨rfl, ?_, HBV.out.bw.kb⟩
                  have e : blockV S b.data.toList = S.add X := by
                    unfold blockV
                    rw [HW.out, HX.out]
                  rw [e]
                  exact HBV.out.bw.s
end Go.Proofs.Ytehnpmkfgdmmmaa.Sha
