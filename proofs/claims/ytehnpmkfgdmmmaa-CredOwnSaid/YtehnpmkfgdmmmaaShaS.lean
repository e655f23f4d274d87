/- Walk: the document's Sum. -/
import Derived.Test.YtehnpmkfgdmmmaaShaR
import Derived.Test.YtehnpmkfgdmmmaaMcA
import Derived.Lib.Strings
namespace Go.Proofs.Ytehnpmkfgdmmmaa.Sha
open Go Go.RowKit Go.Proofs.Ytehnpmkfgdmmmaa Go.Proofs.YtehnpmkfgdmmmaaW.PrintWords
set_option linter.unusedVariables false
set_option linter.unusedSimpArgs false

theorem infoByteS : (Try.prog.info? 5).map (fun i => (i.zero, i.size, i.bytes)) = some (some (.int .u8 0), 1, 1) := by kernel_rfl
/-- Bytes as the walk's numbers. -/
def nb (l : List UInt8) : List Int := l.map fun c => (c.toNat : Int)
theorem nb_len (l : List UInt8) : (nb l).length = l.length := List.length_map _
/-- A row of words, a slice of bytes that is one's own behind it. -/
structure RS (w0 : World) (g3 : Nat) (L : List V) (v : Value) (l : List UInt8) (wr : World) : Prop where
  row : wr.heap[g3]? = some (.cells (cvs L) 86 (0, 0))
  own : OwnG wr (g3 + 1) 5 .u8 v (nb l)
  bel : Below w0.heap.size w0 wr
  lt : w0.heap.size ≤ g3
theorem RS.size {w0 : World} {g3 : Nat} {L : List V} {v : Value} {l : List UInt8} {wr : World} (h : RS w0 g3 L v l wr) : g3 + 1 ≤ wr.heap.size := (Array.getElem?_eq_some_iff.1 h.row).1
theorem RS.alloc {w0 : World} {g3 : Nat} {L : List V} {v : Value} {l : List UInt8} {wr : World} (h : RS w0 g3 L v l wr) (o : Obj) : RS w0 g3 L v l (wr.alloc o) := by
  have hs := h.size
  have hb := h.bel.size
  exact ⟨(Go.heap_alloc_old _ _ (by omega)).trans h.row, h.own.kept fun g hg => Go.heap_alloc_old _ _ (h.own.lt g hg).2, h.bel.alloc hb _, h.lt⟩
theorem RS.drewN {w0 : World} {g3 : Nat} {L : List V} {v : Value} {l : List UInt8} {wr : World} (h : RS w0 g3 L v l wr) (n : Nat) : RS w0 g3 L v l (wr.drewN n) := ⟨h.row, h.own.kept fun g hg => rfl, pw_below_drewN h.bel n, h.lt⟩
theorem RS.drew {w0 : World} {g3 : Nat} {L : List V} {v : Value} {l : List UInt8} {wr : World} (h : RS w0 g3 L v l wr) : RS w0 g3 L v l wr.drew := ⟨h.row, h.own.kept fun g hg => rfl, h.bel.drew, h.lt⟩
theorem RS.below {w0 : World} {g3 : Nat} {L : List V} {v : Value} {l : List UInt8} {wr w1 : World} (h : RS w0 g3 L v l wr) (hb : Below wr.heap.size wr w1) : RS w0 g3 L v l w1 := by
  have hs := h.size
  have hz := h.bel.size
  exact ⟨below_blk hb h.row (by omega), h.own.kept fun g hg => hb.block g (h.own.lt g hg).2, h.bel.trans (hb.mono hz), h.lt⟩
theorem RS.app {w0 : World} {g3 : Nat} {L : List V} {v v1 : Value} {l m : List UInt8} {wr w1 : World} (h : RS w0 g3 L v l wr) (ho : OwnG w1 (g3 + 1) 5 .u8 v1 (nb l ++ nb m)) (hg : wr.grownBy w1 v.ownBlock) : RS w0 g3 L v1 (l ++ m) w1 := by
  have hs := h.size
  have hz := h.bel.size
  refine ⟨(hg.block g3 (by omega) (fun e => ?_)).trans h.row, by unfold nb at *; rw [List.map_append]; exact ho, h.bel.grown hg hz (fun k hk => ?_), h.lt⟩
  · have := (h.own.lt g3 e.symm).1; omega
  · have := (h.own.lt k hk).1; have := h.lt; omega
theorem ownG_shape {w : World} {base : Nat} {e : TypeId} {k : IntKind} {v : Value} {xs : List Int} (h : OwnG w base e k v xs) : ∃ ad cap, v = .slice ad xs.length cap := by
  rcases h with ⟨rfl, rfl⟩ | ⟨g, cap, cur, fz, rfl, _⟩
  · exact ⟨_, _, rfl⟩
  · exact ⟨_, _, rfl⟩
theorem ref_number_any (m : Nat) (T : ByteArray) (hT : T.size ≤ 140737488355000) (w : World) : Calls Try.prog 59 #[.int .u64 (m : Int)] w fun e w' => ∃ t : ByteArray, e = .returned (.string t) ∧ t.data.toList = numB m ∧ ((9223372036854775807 < T.size + t.size) = False) ∧ Below w.heap.size w w' := by
  refine (PN.atriumref04_Number.calls 9 _ _ w (ref_number_n m)).mono ?_
  rintro e w' ⟨rfl, hb⟩
  exact ⟨_, rfl, rfl, eq_false (by show ¬ 9223372036854775807 < T.size + 8; omega), hb⟩
theorem RS.rng {w0 : World} {g3 : Nat} {S : S8} {v : Value} {l : List UInt8} {wr : World} (h : RS w0 g3 S.l v l wr) : wr.rangeAt g3 0 (S.l.map fun x => Value.int .u32 (x.toNat : Int)) ∧ wr.there g3 0 8 := by
  refine ⟨fun j v hv => ?_, fun j hj => ⟨?_, ?_⟩⟩
  · rw [Nat.zero_add, cell_of_row _ _ _ _ _ _ h.row]
    simpa [cvs] using hv
  · rw [Nat.zero_add, cell_of_row _ _ _ _ _ _ h.row, cvs_get _ _ (show j < S.l.length from hj)]
    rfl
  · exact frozen_of_row _ _ _ _ _ h.row
theorem ref_block8 (xa xb xc xd xe xf xg xh : V) (b : ByteArray) (w : World) (hb : b.size = 64) :
    Calls Try.prog 60 #[.agg #[.int .u32 (xa.toNat : Int), .int .u32 (xb.toNat : Int), .int .u32 (xc.toNat : Int), .int .u32 (xd.toNat : Int), .int .u32 (xe.toNat : Int), .int .u32 (xf.toNat : Int), .int .u32 (xg.toNat : Int), .int .u32 (xh.toNat : Int)], .string b] w fun e w' =>
      ∃ ya yb yc yd ye yf yg yh : V, e = .returned (.agg #[.int .u32 (ya.toNat : Int), .int .u32 (yb.toNat : Int), .int .u32 (yc.toNat : Int), .int .u32 (yd.toNat : Int), .int .u32 (ye.toNat : Int), .int .u32 (yf.toNat : Int), .int .u32 (yg.toNat : Int), .int .u32 (yh.toNat : Int)]) ∧
        blockV ⟨xa, xb, xc, xd, xe, xf, xg, xh⟩ b.data.toList = ⟨ya, yb, yc, yd, ye, yf, yg, yh⟩ ∧ Below w.heap.size w w' := by
  refine (ref_block_any ⟨xa, xb, xc, xd, xe, xf, xg, xh⟩ b w hb).mono ?_
  rintro e w' ⟨rfl, hb1⟩
  generalize blockV ⟨xa, xb, xc, xd, xe, xf, xg, xh⟩ b.data.toList = Y
  obtain ⟨ya, yb, yc, yd, ye, yf, yg, yh⟩ := Y
  exact ⟨ya, yb, yc, yd, ye, yf, yg, yh, rfl, rfl, hb1⟩
theorem RS.c {w0 : World} {g3 : Nat} {L : List V} {v : Value} {l : List UInt8} {wr : World} (h : RS w0 g3 L v l wr) (i : Nat) (x : V) (hi : L[i]? = some x) : wr.cell? ⟨g3, i, none⟩ = some (.int .u32 (x.toNat : Int)) ∧ wr.frozen? ⟨g3, i, none⟩ = false := by
  refine ⟨?_, frozen_of_row _ _ _ _ _ h.row⟩
  rw [cell_of_row _ _ _ _ _ _ h.row]
  simp [cvs, hi]
theorem RS.set1 {w0 : World} {g3 : Nat} {L : List V} {v : Value} {l : List UInt8} {wr : World} (h : RS w0 g3 L v l wr) (i : Nat) (x : V) : RS w0 g3 (L.set i x) v l (wr.setCell ⟨g3, i, none⟩ (.int .u32 (x.toNat : Int))) := by
  have hl := h.lt
  refine ⟨?_, h.own.kept fun g hg => heap_setCell_other _ _ _ _ (by have := (h.own.lt g hg).1; show g ≠ g3; omega), h.bel.setCell (p := ⟨g3, i, none⟩) hl _, h.lt⟩
  rw [← cvs_set]
  exact heap_setCell_same _ _ _ _ _ _ h.row
theorem RS.set8 {w0 : World} {g3 : Nat} {xa xb xc xd xe xf xg xh : V} {v : Value} {l : List UInt8} {wr : World} (h : RS w0 g3 [xa, xb, xc, xd, xe, xf, xg, xh] v l wr) (a b c d e f g i : V) :
    RS w0 g3 [a, b, c, d, e, f, g, i] v l ((((((((wr.setCell ⟨g3, 0, none⟩ (.int .u32 (a.toNat : Int))).setCell ⟨g3, 1, none⟩ (.int .u32 (b.toNat : Int))).setCell ⟨g3, 2, none⟩ (.int .u32 (c.toNat : Int))).setCell ⟨g3, 3, none⟩ (.int .u32 (d.toNat : Int))).setCell ⟨g3, 4, none⟩ (.int .u32 (e.toNat : Int))).setCell ⟨g3, 5, none⟩ (.int .u32 (f.toNat : Int))).setCell ⟨g3, 6, none⟩ (.int .u32 (g.toNat : Int))).setCell ⟨g3, 7, none⟩ (.int .u32 (i.toNat : Int))) :=
  (((((((h.set1 0 a).set1 1 b).set1 2 c).set1 3 d).set1 4 e).set1 5 f).set1 6 g).set1 7 i
theorem slice64 (A : ByteArray) (I : Nat) (h : I + 64 ≤ A.size) (w : World) : (Instr.slice 9 (.string A) (some (.int .i64 (I : Int))) (some (.int .i64 ((I : Int) + 64))) none).run Try.prog w = .ok (.string (A.extract I (I + 64))) w := by
  rw [run_slice_string w 9 A .i64 .i64 (I : Int) ((I : Int) + 64) Try.underlying9 (by omega) (by omega) (by omega)]
  rfl
theorem wrap_mid (I : Int) (h0 : 0 ≤ I) (h : I < 9223372036854775744) : IntKind.i64.wrap (I + 64) = I + 64 := by
  have e : (I + 64) % 2 ^ IntKind.i64.bits = I + 64 := by
    show (I + 64) % 18446744073709551616 = _
    omega
  unfold IntKind.wrap
  simp only [e]
  rw [if_neg]
  intro h9
  rw [Bool.and_eq_true, decide_eq_true_eq] at h9
  have h8 : I + 64 ≥ 9223372036854775808 := h9.2
  omega
theorem wb_step (L : List V) (i : Nat) (x : V) (h : L[i]? = some x) : nb ((L.take (i + 1)).flatMap wordB) = nb ((L.take i).flatMap wordB) ++ nb (wordB x) := by
  have hi : i < L.length := (List.getElem?_eq_some_iff.1 h).1
  have hx : L[i] = x := (List.getElem?_eq_some_iff.1 h).2
  rw [List.take_succ_eq_append_getElem hi, hx, List.flatMap_append]
  unfold nb
  rw [List.map_append]
  simp
theorem wb_len : ∀ L : List V, (nb (L.flatMap wordB)).length = 4 * L.length
  | [] => rfl
  | x :: L => by
    have := wb_len L
    rw [nb_len] at this ⊢
    rw [List.flatMap_cons, List.length_append, this, List.length_cons]
    show 4 + _ = _
    omega
theorem nbw (x : V) : nb (wordB x) = [(x.toNat : Int) / 16777216, (x.toNat : Int) / 65536 % 256, (x.toNat : Int) / 256 % 256, (x.toNat : Int) % 256] := by
  have := x.isLt
  unfold nb wordB
  simp only [List.map_cons, List.map_nil, b8_nat]
  rw [show (2 : Nat) ^ 24 = 16777216 from rfl, show (2 : Nat) ^ 16 = 65536 from rfl, show (2 : Nat) ^ 8 = 256 from rfl]
  congr 1
  omega
theorem lit4 (w : World) (q0 q1 q2 q3 : Int) : ReadsInt (w.alloc (.cells #[.int .u8 q0, .int .u8 q1, .int .u8 q2, .int .u8 q3] 5)) .u8 (some ⟨w.heap.size, 0, none⟩) 4 [q0, q1, q2, q3] := by
  refine ⟨rfl, by decide, fun _ => ⟨_, rfl, fun j hj => ?_⟩⟩
  rw [add_plain, cell_of_row _ _ _ _ _ _ (heap_alloc_new _ _)]
  match j, hj with
  | 0, _ => rfl
  | 1, _ => rfl
  | 2, _ => rfl
  | 3, _ => rfl
theorem idx0 (a b c d e f g h : Int) (w : World) : (Instr.index 86 (.agg #[.int .u32 a, .int .u32 b, .int .u32 c, .int .u32 d, .int .u32 e, .int .u32 f, .int .u32 g, .int .u32 h]) (.int .i64 0)).run Try.prog w = .ok (.int .u32 a) w := by kernel_rfl
theorem idx1 (a b c d e f g h : Int) (w : World) : (Instr.index 86 (.agg #[.int .u32 a, .int .u32 b, .int .u32 c, .int .u32 d, .int .u32 e, .int .u32 f, .int .u32 g, .int .u32 h]) (.int .i64 1)).run Try.prog w = .ok (.int .u32 b) w := by kernel_rfl
theorem idx2 (a b c d e f g h : Int) (w : World) : (Instr.index 86 (.agg #[.int .u32 a, .int .u32 b, .int .u32 c, .int .u32 d, .int .u32 e, .int .u32 f, .int .u32 g, .int .u32 h]) (.int .i64 2)).run Try.prog w = .ok (.int .u32 c) w := by kernel_rfl
theorem idx3 (a b c d e f g h : Int) (w : World) : (Instr.index 86 (.agg #[.int .u32 a, .int .u32 b, .int .u32 c, .int .u32 d, .int .u32 e, .int .u32 f, .int .u32 g, .int .u32 h]) (.int .i64 3)).run Try.prog w = .ok (.int .u32 d) w := by kernel_rfl
theorem idx4 (a b c d e f g h : Int) (w : World) : (Instr.index 86 (.agg #[.int .u32 a, .int .u32 b, .int .u32 c, .int .u32 d, .int .u32 e, .int .u32 f, .int .u32 g, .int .u32 h]) (.int .i64 4)).run Try.prog w = .ok (.int .u32 e) w := by kernel_rfl
theorem idx5 (a b c d e f g h : Int) (w : World) : (Instr.index 86 (.agg #[.int .u32 a, .int .u32 b, .int .u32 c, .int .u32 d, .int .u32 e, .int .u32 f, .int .u32 g, .int .u32 h]) (.int .i64 5)).run Try.prog w = .ok (.int .u32 f) w := by kernel_rfl
theorem idx6 (a b c d e f g h : Int) (w : World) : (Instr.index 86 (.agg #[.int .u32 a, .int .u32 b, .int .u32 c, .int .u32 d, .int .u32 e, .int .u32 f, .int .u32 g, .int .u32 h]) (.int .i64 6)).run Try.prog w = .ok (.int .u32 g) w := by kernel_rfl
theorem idx7 (a b c d e f g h : Int) (w : World) : (Instr.index 86 (.agg #[.int .u32 a, .int .u32 b, .int .u32 c, .int .u32 d, .int .u32 e, .int .u32 f, .int .u32 g, .int .u32 h]) (.int .i64 7)).run Try.prog w = .ok (.int .u32 h) w := by kernel_rfl
/-- A literal slice, just made. -/
theorem lit_reads (w : World) (l : List UInt8) (hl : l.length ≤ 9223372036854775807) : ReadsInt (w.alloc (.cells (l.map fun c => Value.int .u8 (c.toNat : Int)).toArray 5)) .u8 (some ⟨w.heap.size, 0, none⟩) l.length (nb l) := by
  refine ⟨nb_len l, hl, fun _ => ⟨_, rfl, fun j hj => ?_⟩⟩
  rw [add_plain, cell_of_row _ _ _ _ _ _ (heap_alloc_new _ _)]
  simp [nb, List.getElem?_eq_getElem hj]
theorem rs_bytes (w : World) (L : List V) (s : ByteArray) (hs : s.size ≤ 140737488355328) :
    RS w w.heap.size L (.slice (some ⟨w.heap.size + 1, 0, none⟩) s.size (grownCap (w.alloc (.cells (cvs L) 86)) s.size 0 5)) s.data.toList (Lib.bytesWorld (w.alloc (.cells (cvs L) 86)) 5 s) := by
  have hz := heap_size_alloc w (.cells (cvs L) 86)
  have ho := ownG_bytes (w.alloc (.cells (cvs L) 86)) 5 s hs
  rw [hz] at ho
  refine ⟨(Lib.bytesWorld_at_old _ _ _ _ (by rw [hz]; omega)).trans (heap_alloc_new _ _), ho, ?_, Nat.le_refl _⟩
  exact bytes_below ((Below.refl _ _).alloc (Nat.le_refl _) _) (by rw [hz]; omega) _ _
def slen : Value → Nat | .slice _ n _ => n | _ => 0
set_option maxRecDepth 20000 in
/-- string(b). -/
theorem ownG_text {w : World} {base : Nat} {ad : Option Addr} {n c : Nat} {l : List UInt8} (h : OwnG w base 5 .u8 (.slice ad n c) (nb l)) : (convert 37 9 (.slice ad n c)).run Try.prog w = .ok (.string ⟨l.toArray⟩) w := by
  rcases h with ⟨hv, hl⟩ | ⟨g, cap, cur, fz, hv, hb, hg, hfz, h1, h2, h3, h4⟩
  · injection hv with e1 e2 e3
    subst e1 e2 e3
    have hl' : l = [] := by simpa [nb] using hl
    subst hl'
    have h := run_convert_bytes_nil (P := Try.prog) w 37 5 Try.underlying37 Try.underlying5 0 0 9 Try.underlying9
    exact h
  · injection hv with e1 e2 e3
    subst e1 e3
    rw [nb_len] at e2
    subst e2
    have hcv := run_convert_bytes_arg (P := Try.prog) w 37 5 Try.underlying37 Try.underlying5 g 0 l.length c (nb l) (nb_len l) (fun i hi => by
      rw [Nat.zero_add, cell_of_row _ _ _ _ _ _ hg]
      have h5 : cur.toList[i]? = (nums .u8 (nb l))[i]? := by
        rw [← h4, List.getElem?_take, if_pos (by rw [nb_len]; exact hi)]
      rw [← Array.getElem?_toList, h5]
      simp [nums, List.getElem?_eq_getElem (show i < (nb l).length by rw [nb_len]; exact hi)]) 9 Try.underlying9
    rw [← row_str]
    exact hcv

set_option maxHeartbeats 1000000 in
set_option maxRecDepth 100000 in
theorem ref_sum_any (s : ByteArray) (w : World) (hs : s.size ≤ 140737488354900) :
    Calls Try.prog 48 #[.string s] w fun e w' => e = .returned (.string ⟨(sumV s.data.toList).toArray⟩) ∧ Below w.heap.size w w' := by
  have kb := fun wx => print_bytes (P := Try.prog) 9 37 5 Try.underlying9 Try.underlying37 Try.underlying5 s wx
  go_enter Try.func48, Try.ntmps48
  go_upto_region 2 with fail
  have HS := Aside0.mk (rs_bytes w firstV s (by omega))
  have HL := Aside0.mk (lit_reads (Lib.bytesWorld (w.alloc (.cells (cvs firstV) 86)) 5 s) [128] (by decide))
  have HBZ := Aside0.mk (Lib.bytesWorld_size (w.alloc (.cells (cvs firstV) 86)) 5 s)
  have Hhs := Aside0.mk hs
  go_upto_region 3 with ((with_reducible refine gate_builtin (b := .append) (xs := #[.tmp 12, .tmp 13]) rfl ?_); at_builtin; refine wpList_append_G (w.heap.size + 1) rfl (.tmp 12) (.tmp 13) 37 5 .u8 rfl Try.underlying37 infoByteS _ (nb s.data.toList) (nb [128]) _ _ _ rfl rfl (HS.out.alloc _).own HL.out (HS.out.alloc _).size (by rw [nb_len, Array.length_toList]; have := Hhs.out; have e : s.data.size = s.size := rfl; omega) ?_)
  intro v1 w1 ho hg _
  have H1 := Aside0.mk ((HS.out.alloc _).app (m := [128]) ho hg)
  obtain ⟨ad1, cap1, hv1⟩ := ownG_shape ho
  have hl1 : (nb s.data.toList ++ nb [128]).length = s.size + 1 := by
    rw [List.length_append, nb_len, nb_len, Array.length_toList]; rfl
  rw [hl1] at hv1
  subst hv1
  clear ho hg HL HBZ hl1 kb HS
  obtain ⟨g3, hg3⟩ : ∃ g, w.heap.size = g := ⟨_, rfl⟩
  rw [hg3] at H1 ⊢
  obtain ⟨n, hn⟩ : ∃ n, s.size = n := ⟨_, rfl⟩
  have Hn := Aside0.mk hn
  have hml : s.data.toList.length = n := by rw [Array.length_toList]; exact hn
  have Hml := Aside0.mk hml
  rw [hn] at H1 ⊢
  clear hml hg3 hs
  go_wp2
  go_loopw [4] (fun bv wr => ∃ j : Nat, j ≤ padN n ∧ ∃ ad cap, bv = .slice ad (n + 1 + j) cap ∧ Aside0 (RS w g3 firstV bv (s.data.toList ++ 128 :: List.replicate j 0) wr)) (fun bv _ => n + 65 - slen bv)
  case atStart => exact ⟨0, Nat.zero_le _, _, _, rfl, H1⟩
  case round =>
    clear H1
    obtain ⟨j, hj, ad, cap, rfl, HR⟩ := hrel
    have hpl := padN_lt n
    have hh := Hhs.out
    rw [hn] at hh
    by_cases hlt : j < padN n
    · have hne := padN_before n j hlt
      obtain ⟨N, hN⟩ : ∃ N, n + 1 + j = N := ⟨_, rfl⟩
      have HN := Aside0.mk hN
      rw [hN] at HR hne ⊢
      have HL := Aside0.mk (lit_reads wr [0] (by decide))
      have hne2 : ¬ ((N : Int) % 64 = 56) := by omega
      have hlen : (s.data.toList ++ 128 :: List.replicate j 0).length = N := by rw [List.length_append, Hml.out, List.length_cons, List.length_replicate]; omega
      have Hlen := Aside0.mk hlen
      have hN2 : N ≤ 140737488355000 := by omega
      have HN2 := Aside0.mk hN2
      have Hrnb := Aside0.mk (show (nb (s.data.toList ++ 128 :: List.replicate j 0)).length = N by rw [nb_len]; exact hlen)
      clear hne hlen hh hN hN2
      go_wp2_with ((with_reducible refine gate_builtin (b := .append) (xs := #[.tmp 19, .tmp 20]) rfl ?_); at_builtin; refine wpList_append_G (g3 + 1) rfl (.tmp 19) (.tmp 20) 37 5 .u8 rfl Try.underlying37 infoByteS _ (nb (s.data.toList ++ 128 :: List.replicate j 0)) (nb [0]) _ _ _ rfl rfl (HR.out.alloc _).own HL.out (HR.out.alloc _).size (by rw [Hrnb.out]; have := HN2.out; simp; omega) ?_)
      intro v1 w1 ho hg _
      have H1 := Aside0.mk ((HR.out.alloc _).app (m := [0]) ho hg)
      obtain ⟨ad1, cap2, hv1⟩ := ownG_shape ho
      rw [show (nb (s.data.toList ++ 128 :: List.replicate j 0) ++ nb [0]).length = N + 1 by rw [List.length_append, Hrnb.out]; rfl] at hv1
      subst hv1
      rw [show (s.data.toList ++ 128 :: List.replicate j 0) ++ [0] = s.data.toList ++ 128 :: List.replicate (j + 1) 0 by rw [List.replicate_succ', List.append_assoc]; rfl] at H1
      clear ho hg
      go_wp2
      go_roundw
      case rel => exact ⟨j + 1, by omega, _, _, by rw [← Nat.add_assoc, HN.out], H1⟩
      case measure => have := HN.out; simp [slen]; omega
    · obtain rfl : j = padN n := by omega
      have heq := padN_at n
      have hlen : (s.data.toList ++ 128 :: List.replicate (padN n) 0).length = n + 1 + padN n := by rw [List.length_append, Hml.out, List.length_cons, List.length_replicate]; omega
      obtain ⟨N, hN⟩ : ∃ N, n + 1 + padN n = N := ⟨_, rfl⟩
      have HN := Aside0.mk hN
      rw [hN] at HR heq hlen ⊢
      have heq2 : ((N : Int) % 64 = 56) := by omega
      have Hh := Aside0.mk hh
      have Hlen := Aside0.mk hlen
      obtain ⟨T, hT⟩ : ∃ T : ByteArray, (⟨(s.data.toList ++ 128 :: List.replicate (padN n) 0).toArray⟩ : ByteArray) = T := ⟨_, rfl⟩
      have kc := fun wx (h : RS w g3 firstV (.slice ad N cap) (s.data.toList ++ 128 :: List.replicate (padN n) 0) wx) => ownG_text h.own
      rw [hT] at kc
      have HT := Aside0.mk hT
      have hTs : T.size = N := by rw [← hT, ← hlen]; exact List.size_toArray
      have HTs := Aside0.mk (show T.size ≤ 140737488355000 by rw [hTs]; omega)
      have u1 : IntKind.u64.wrap (n : Int) = (n : Int) := by
        show (n : Int) % 18446744073709551616 = _
        omega
      have u2 : IntKind.u64.wrap ((n : Int) * 8) = ((8 * n : Nat) : Int) := by
        show ((n : Int) * 8) % 18446744073709551616 = _
        omega
      have kc0 := kc wr.drew HR.out.drew
      have Kc := Aside0.mk kc
      clear heq hlen hh hN hlt hj hpl kc hT hTs
      go_upto_region 5 with fail
      go_region_with (first | (go_at_call 59; refine (ref_number_any (8 * n) T HTs.out _).mono ?_; rintro e1 w2 ⟨t, rfl, ht, hsz, hb1⟩; have Ht := Aside0.mk ht; have kc1 := Kc.out _ (HR.out.drew.below hb1); have Hb := Aside0.mk (HR.out.drew.below hb1); clear ht hb1))
      all_goals
        have hAl : (T ++ t).data.toList = padded s.data.toList := by
          unfold padded tailB
          rw [ByteArray.data_append, Array.toList_append, Ht.out, ← HT.out, Hml.out, Nat.mod_eq_of_lt (by have := Hh.out; omega)]
          simp
        generalize T ++ t = ALL at *
        have hsz2 : ALL.size % 64 = 0 := by
          have := padded_mod s.data.toList
          rw [← hAl, Array.length_toList] at this
          exact this
        have hsz3 : ALL.size ≤ 140737488355300 := by
          have h1 := padded_len s.data.toList
          rw [← hAl, Array.length_toList, Hml.out] at h1
          have h2 := padN_lt n
          have h3 := Hh.out
          have h4 : ALL.data.size = ALL.size := rfl
          omega
        have HAl := Aside0.mk hAl
        have HR2 := Aside0.mk (show RS w g3 (foldB 0 first8 ALL.data.toList).l (.slice ad N cap) (s.data.toList ++ 128 :: List.replicate (padN n) 0) w2 from Hb.out)
        obtain ⟨K, hK⟩ : ∃ K, ALL.size = 64 * K := ⟨ALL.size / 64, by omega⟩
        have HK := Aside0.mk hK
        clear hAl hsz hsz2 kc0 kc1 Kc HTs HT Ht Hb heq2 u1 u2 HR
        go_wp2
        go_loopw [6] (fun iv wr => ∃ k : Nat, k ≤ K ∧ iv = .int .i64 ((64 * k : Nat) : Int) ∧ Aside0 (RS w g3 (foldB k first8 ALL.data.toList).l (.slice ad N cap) (s.data.toList ++ 128 :: List.replicate (padN n) 0) wr)) (fun iv _ => 64 * K - (intOf iv).toNat)
        case atStart => exact ⟨0, Nat.zero_le _, rfl, HR2⟩
        case round =>
          clear HR2
          obtain ⟨k, hk, rfl, HR⟩ := hrel
          by_cases hlt : k < K
          · have hnx : foldB (k + 1) first8 ALL.data.toList = blockV (foldB k first8 ALL.data.toList) (ALL.extract (64 * k) (64 * k + 64)).data.toList := by
              rw [foldB_snoc, Lib.extract_data, show 64 * k + 64 - 64 * k = 64 by omega]
            have Hnx := Aside0.mk hnx
            obtain ⟨X, hX⟩ : ∃ X, foldB k first8 ALL.data.toList = X := ⟨_, rfl⟩
            rw [hX] at HR Hnx
            obtain ⟨I, hI⟩ : ∃ I, 64 * k = I := ⟨_, rfl⟩
            have HI := Aside0.mk hI
            rw [hI] at Hnx ⊢
            have i1 : (0 : Int) ≤ (I : Int) := by omega
            have i2 : (I : Int) + 64 ≤ (ALL.size : Int) := by omega
            have i3 : I + 64 ≤ ALL.size := by omega
            have i4 : (I : Int) < (ALL.size : Int) := by omega
            have hes : (ALL.extract I (I + 64)).size = 64 := by rw [ByteArray.size_extract]; omega
            have Hes := Aside0.mk hes
            have hsl := slice64 ALL I i3
            have iw := wrap_mid I i1 (by omega)
            obtain ⟨xa, xb, xc, xd, xe, xf, xg, xh⟩ := X
            have c0 := HR.out.c 0 xa rfl
            have c0a := c0.1
            have c0b := c0.2
            clear c0
            have c1 := HR.out.c 1 xb rfl
            have c1a := c1.1
            have c1b := c1.2
            clear c1
            have c2 := HR.out.c 2 xc rfl
            have c2a := c2.1
            have c2b := c2.2
            clear c2
            have c3 := HR.out.c 3 xd rfl
            have c3a := c3.1
            have c3b := c3.2
            clear c3
            have c4 := HR.out.c 4 xe rfl
            have c4a := c4.1
            have c4b := c4.2
            clear c4
            have c5 := HR.out.c 5 xf rfl
            have c5a := c5.1
            have c5b := c5.2
            clear c5
            have c6 := HR.out.c 6 xg rfl
            have c6a := c6.1
            have c6b := c6.2
            clear c6
            have c7 := HR.out.c 7 xh rfl
            have c7a := c7.1
            have c7b := c7.2
            clear c7
            have HLT := Aside0.mk hlt
            clear hnx hX hI hes hlt hK
            go_upto_region 9 with fail
            go_region_with (first | (go_at_call 60; refine (ref_block8 xa xb xc xd xe xf xg xh _ _ Hes.out).mono ?_; rintro e1 w3 ⟨ya, yb, yc, yd, ye, yf, yg, yh, rfl, hy, hb1⟩; have Hy := Aside0.mk hy; have HR3 := Aside0.mk (HR.out.drew.below hb1); have d0 := (HR3.out.c 0 xa rfl).1; have e0 := (HR3.out.c 0 xa rfl).2; have d1 := (HR3.out.c 1 xb rfl).1; have e1 := (HR3.out.c 1 xb rfl).2; have d2 := (HR3.out.c 2 xc rfl).1; have e2 := (HR3.out.c 2 xc rfl).2; have d3 := (HR3.out.c 3 xd rfl).1; have e3 := (HR3.out.c 3 xd rfl).2; have d4 := (HR3.out.c 4 xe rfl).1; have e4 := (HR3.out.c 4 xe rfl).2; have d5 := (HR3.out.c 5 xf rfl).1; have e5 := (HR3.out.c 5 xf rfl).2; have d6 := (HR3.out.c 6 xg rfl).1; have e6 := (HR3.out.c 6 xg rfl).2; have d7 := (HR3.out.c 7 xh rfl).1; have e7 := (HR3.out.c 7 xh rfl).2; clear hb1 hy))
            go_wp2
            go_roundw
            case rel =>
              refine ⟨k + 1, HLT.out, ?_, ?_⟩
              · have := HI.out
                rw [show 64 * (k + 1) = I + 64 by omega]
                go_num
              · rw [Hnx.out, Hy.out]
                exact ⟨HR3.out.set8 ya yb yc yd ye yf yg yh⟩
            case measure => simp [intOf]; have := HI.out; have := HLT.out; omega
          · obtain rfl : k = K := by omega
            obtain ⟨X, hX⟩ : ∃ X, foldB k first8 ALL.data.toList = X := ⟨_, rfl⟩
            have hfin : sumV s.data.toList = outB X := by
              unfold sumV
              rw [← HAl.out, Array.length_toList, show ALL.data.size = 64 * k from hK, Nat.mul_div_cancel_left _ (by omega), hX]
            have Hfin := Aside0.mk hfin
            rw [hX] at HR
            obtain ⟨I, hI⟩ : ∃ I : Int, ((64 * k : Nat) : Int) = I := ⟨_, rfl⟩
            have hge : (ALL.size : Int) ≤ I := by omega
            rw [hI]
            clear hX hfin hlt hK hI HK
            obtain ⟨xa, xb, xc, xd, xe, xf, xg, xh⟩ := X
            have c0a := (HR.out.c 0 xa rfl).1
            have c1a := (HR.out.c 1 xb rfl).1
            have c2a := (HR.out.c 2 xc rfl).1
            have c3a := (HR.out.c 3 xd rfl).1
            have c4a := (HR.out.c 4 xe rfl).1
            have c5a := (HR.out.c 5 xf rfl).1
            have c6a := (HR.out.c 6 xg rfl).1
            have c7a := (HR.out.c 7 xh rfl).1
            have HB3 := Aside0.mk HR.out.bel
            clear HR
            go_wp2
            go_loopw [7, 44] (fun bv iv wr => ∃ i : Nat, i ≤ 8 ∧ iv = .int .i64 i ∧ ∃ ad cap, bv = .slice ad (4 * i) cap ∧ Aside0 (OwnG wr w.heap.size 5 .u8 bv (nb (([xa, xb, xc, xd, xe, xf, xg, xh].take i).flatMap wordB))) ∧ Aside0 (Below w.heap.size w wr)) (fun _ iv _ => 8 - (intOf iv).toNat)
            case atStart => exact ⟨0, Nat.zero_le _, rfl, _, _, rfl, ⟨ownG_nil _ _ _ _⟩, HB3⟩
            case round =>
              clear HB3 c0a c1a c2a c3a c4a c5a c6a c7a
              obtain ⟨i, hi, rfl, ad2, cap2, rfl, HO, HB3⟩ := hrel
              by_cases hlt : i < 8
              · have p1 : (0 : Int) ≤ (i : Int) := by omega
                have p2 : (i : Int) < 8 := by omega
                have hw : ∀ j, j ≤ 8 → (nb (([xa, xb, xc, xd, xe, xf, xg, xh].take j).flatMap wordB)).length = 4 * j := fun j h => by
                  rw [wb_len, List.length_take, Nat.min_eq_left (by simpa using h)]
                have Hw := Aside0.mk hw
                clear hw hlt hi
                have hb3 := HB3.out.size
                have HBz := Aside0.mk (show w.heap.size ≤ wr.heap.size from hb3)
                clear hb3
                rcases (show i = 0 ∨ i = 1 ∨ i = 2 ∨ i = 3 ∨ i = 4 ∨ i = 5 ∨ i = 6 ∨ i = 7 by omega) with rfl | rfl | rfl | rfl | rfl | rfl | rfl | rfl
                · clear p1 p2
                  have hix := idx0 (xa.toNat : Int) (xb.toNat : Int) (xc.toNat : Int) (xd.toNat : Int) (xe.toNat : Int) (xf.toNat : Int) (xg.toNat : Int) (xh.toNat : Int)
                  go_upto_region 15 with ((with_reducible refine gate_builtin (b := .append) (xs := #[.tmp 47, .tmp 59]) rfl ?_); at_builtin; refine wpList_append_G w.heap.size rfl (.tmp 47) (.tmp 59) 37 5 .u8 rfl Try.underlying37 infoByteS _ (nb (([xa, xb, xc, xd, xe, xf, xg, xh].take 0).flatMap wordB)) _ _ _ _ rfl rfl (HO.out.kept fun g hg => Go.heap_alloc_old _ _ (HO.out.lt g hg).2) (lit4 _ _ _ _ _) (by have := HBz.out; rw [heap_size_alloc]; omega) (by have := Hw.out 0 (by omega); omega) ?_)
                  intro v1 w1 ho hg _
                  have e1 := (wb_step [xa, xb, xc, xd, xe, xf, xg, xh] 0 xa rfl).trans (congrArg (_ ++ ·) (nbw xa))
                  have ho2 : OwnG w1 w.heap.size 5 .u8 v1 (nb (([xa, xb, xc, xd, xe, xf, xg, xh].take 1).flatMap wordB)) := by rw [e1]; exact ho
                  obtain ⟨ad3, cap3, hv1⟩ := ownG_shape ho2
                  rw [Hw.out 1 (by omega)] at hv1
                  have HO2 := Aside0.mk ho2
                  have HB4 := Aside0.mk ((HB3.out.alloc HBz.out _).grown hg (by have := HBz.out; rw [heap_size_alloc]; omega) (fun q hq => (HO.out.lt q hq).1))
                  subst hv1
                  clear ho ho2 hg e1
                  go_wp2
                  go_roundw
                  case rel => exact ⟨1, by omega, by go_num, _, _, rfl, HO2, HB4⟩
                  case measure => simp [intOf]
                · clear p1 p2
                  have hix := idx1 (xa.toNat : Int) (xb.toNat : Int) (xc.toNat : Int) (xd.toNat : Int) (xe.toNat : Int) (xf.toNat : Int) (xg.toNat : Int) (xh.toNat : Int)
                  go_upto_region 15 with ((with_reducible refine gate_builtin (b := .append) (xs := #[.tmp 47, .tmp 59]) rfl ?_); at_builtin; refine wpList_append_G w.heap.size rfl (.tmp 47) (.tmp 59) 37 5 .u8 rfl Try.underlying37 infoByteS _ (nb (([xa, xb, xc, xd, xe, xf, xg, xh].take 1).flatMap wordB)) _ _ _ _ rfl rfl (HO.out.kept fun g hg => Go.heap_alloc_old _ _ (HO.out.lt g hg).2) (lit4 _ _ _ _ _) (by have := HBz.out; rw [heap_size_alloc]; omega) (by have := Hw.out 1 (by omega); omega) ?_)
                  intro v1 w1 ho hg _
                  have e1 := (wb_step [xa, xb, xc, xd, xe, xf, xg, xh] 1 xb rfl).trans (congrArg (_ ++ ·) (nbw xb))
                  have ho2 : OwnG w1 w.heap.size 5 .u8 v1 (nb (([xa, xb, xc, xd, xe, xf, xg, xh].take 2).flatMap wordB)) := by rw [e1]; exact ho
                  obtain ⟨ad3, cap3, hv1⟩ := ownG_shape ho2
                  rw [Hw.out 2 (by omega)] at hv1
                  have HO2 := Aside0.mk ho2
                  have HB4 := Aside0.mk ((HB3.out.alloc HBz.out _).grown hg (by have := HBz.out; rw [heap_size_alloc]; omega) (fun q hq => (HO.out.lt q hq).1))
                  subst hv1
                  clear ho ho2 hg e1
                  go_wp2
                  go_roundw
                  case rel => exact ⟨2, by omega, by go_num, _, _, rfl, HO2, HB4⟩
                  case measure => simp [intOf]
                · clear p1 p2
                  have hix := idx2 (xa.toNat : Int) (xb.toNat : Int) (xc.toNat : Int) (xd.toNat : Int) (xe.toNat : Int) (xf.toNat : Int) (xg.toNat : Int) (xh.toNat : Int)
                  go_upto_region 15 with ((with_reducible refine gate_builtin (b := .append) (xs := #[.tmp 47, .tmp 59]) rfl ?_); at_builtin; refine wpList_append_G w.heap.size rfl (.tmp 47) (.tmp 59) 37 5 .u8 rfl Try.underlying37 infoByteS _ (nb (([xa, xb, xc, xd, xe, xf, xg, xh].take 2).flatMap wordB)) _ _ _ _ rfl rfl (HO.out.kept fun g hg => Go.heap_alloc_old _ _ (HO.out.lt g hg).2) (lit4 _ _ _ _ _) (by have := HBz.out; rw [heap_size_alloc]; omega) (by have := Hw.out 2 (by omega); omega) ?_)
                  intro v1 w1 ho hg _
                  have e1 := (wb_step [xa, xb, xc, xd, xe, xf, xg, xh] 2 xc rfl).trans (congrArg (_ ++ ·) (nbw xc))
                  have ho2 : OwnG w1 w.heap.size 5 .u8 v1 (nb (([xa, xb, xc, xd, xe, xf, xg, xh].take 3).flatMap wordB)) := by rw [e1]; exact ho
                  obtain ⟨ad3, cap3, hv1⟩ := ownG_shape ho2
                  rw [Hw.out 3 (by omega)] at hv1
                  have HO2 := Aside0.mk ho2
                  have HB4 := Aside0.mk ((HB3.out.alloc HBz.out _).grown hg (by have := HBz.out; rw [heap_size_alloc]; omega) (fun q hq => (HO.out.lt q hq).1))
                  subst hv1
                  clear ho ho2 hg e1
                  go_wp2
                  go_roundw
                  case rel => exact ⟨3, by omega, by go_num, _, _, rfl, HO2, HB4⟩
                  case measure => simp [intOf]
                · clear p1 p2
                  have hix := idx3 (xa.toNat : Int) (xb.toNat : Int) (xc.toNat : Int) (xd.toNat : Int) (xe.toNat : Int) (xf.toNat : Int) (xg.toNat : Int) (xh.toNat : Int)
                  go_upto_region 15 with ((with_reducible refine gate_builtin (b := .append) (xs := #[.tmp 47, .tmp 59]) rfl ?_); at_builtin; refine wpList_append_G w.heap.size rfl (.tmp 47) (.tmp 59) 37 5 .u8 rfl Try.underlying37 infoByteS _ (nb (([xa, xb, xc, xd, xe, xf, xg, xh].take 3).flatMap wordB)) _ _ _ _ rfl rfl (HO.out.kept fun g hg => Go.heap_alloc_old _ _ (HO.out.lt g hg).2) (lit4 _ _ _ _ _) (by have := HBz.out; rw [heap_size_alloc]; omega) (by have := Hw.out 3 (by omega); omega) ?_)
                  intro v1 w1 ho hg _
                  have e1 := (wb_step [xa, xb, xc, xd, xe, xf, xg, xh] 3 xd rfl).trans (congrArg (_ ++ ·) (nbw xd))
                  have ho2 : OwnG w1 w.heap.size 5 .u8 v1 (nb (([xa, xb, xc, xd, xe, xf, xg, xh].take 4).flatMap wordB)) := by rw [e1]; exact ho
                  obtain ⟨ad3, cap3, hv1⟩ := ownG_shape ho2
                  rw [Hw.out 4 (by omega)] at hv1
                  have HO2 := Aside0.mk ho2
                  have HB4 := Aside0.mk ((HB3.out.alloc HBz.out _).grown hg (by have := HBz.out; rw [heap_size_alloc]; omega) (fun q hq => (HO.out.lt q hq).1))
                  subst hv1
                  clear ho ho2 hg e1
                  go_wp2
                  go_roundw
                  case rel => exact ⟨4, by omega, by go_num, _, _, rfl, HO2, HB4⟩
                  case measure => simp [intOf]
                · clear p1 p2
                  have hix := idx4 (xa.toNat : Int) (xb.toNat : Int) (xc.toNat : Int) (xd.toNat : Int) (xe.toNat : Int) (xf.toNat : Int) (xg.toNat : Int) (xh.toNat : Int)
                  go_upto_region 15 with ((with_reducible refine gate_builtin (b := .append) (xs := #[.tmp 47, .tmp 59]) rfl ?_); at_builtin; refine wpList_append_G w.heap.size rfl (.tmp 47) (.tmp 59) 37 5 .u8 rfl Try.underlying37 infoByteS _ (nb (([xa, xb, xc, xd, xe, xf, xg, xh].take 4).flatMap wordB)) _ _ _ _ rfl rfl (HO.out.kept fun g hg => Go.heap_alloc_old _ _ (HO.out.lt g hg).2) (lit4 _ _ _ _ _) (by have := HBz.out; rw [heap_size_alloc]; omega) (by have := Hw.out 4 (by omega); omega) ?_)
                  intro v1 w1 ho hg _
                  have e1 := (wb_step [xa, xb, xc, xd, xe, xf, xg, xh] 4 xe rfl).trans (congrArg (_ ++ ·) (nbw xe))
                  have ho2 : OwnG w1 w.heap.size 5 .u8 v1 (nb (([xa, xb, xc, xd, xe, xf, xg, xh].take 5).flatMap wordB)) := by rw [e1]; exact ho
                  obtain ⟨ad3, cap3, hv1⟩ := ownG_shape ho2
                  rw [Hw.out 5 (by omega)] at hv1
                  have HO2 := Aside0.mk ho2
                  have HB4 := Aside0.mk ((HB3.out.alloc HBz.out _).grown hg (by have := HBz.out; rw [heap_size_alloc]; omega) (fun q hq => (HO.out.lt q hq).1))
                  subst hv1
                  clear ho ho2 hg e1
                  go_wp2
                  go_roundw
                  case rel => exact ⟨5, by omega, by go_num, _, _, rfl, HO2, HB4⟩
                  case measure => simp [intOf]
                · clear p1 p2
                  have hix := idx5 (xa.toNat : Int) (xb.toNat : Int) (xc.toNat : Int) (xd.toNat : Int) (xe.toNat : Int) (xf.toNat : Int) (xg.toNat : Int) (xh.toNat : Int)
                  go_upto_region 15 with ((with_reducible refine gate_builtin (b := .append) (xs := #[.tmp 47, .tmp 59]) rfl ?_); at_builtin; refine wpList_append_G w.heap.size rfl (.tmp 47) (.tmp 59) 37 5 .u8 rfl Try.underlying37 infoByteS _ (nb (([xa, xb, xc, xd, xe, xf, xg, xh].take 5).flatMap wordB)) _ _ _ _ rfl rfl (HO.out.kept fun g hg => Go.heap_alloc_old _ _ (HO.out.lt g hg).2) (lit4 _ _ _ _ _) (by have := HBz.out; rw [heap_size_alloc]; omega) (by have := Hw.out 5 (by omega); omega) ?_)
                  intro v1 w1 ho hg _
                  have e1 := (wb_step [xa, xb, xc, xd, xe, xf, xg, xh] 5 xf rfl).trans (congrArg (_ ++ ·) (nbw xf))
                  have ho2 : OwnG w1 w.heap.size 5 .u8 v1 (nb (([xa, xb, xc, xd, xe, xf, xg, xh].take 6).flatMap wordB)) := by rw [e1]; exact ho
                  obtain ⟨ad3, cap3, hv1⟩ := ownG_shape ho2
                  rw [Hw.out 6 (by omega)] at hv1
                  have HO2 := Aside0.mk ho2
                  have HB4 := Aside0.mk ((HB3.out.alloc HBz.out _).grown hg (by have := HBz.out; rw [heap_size_alloc]; omega) (fun q hq => (HO.out.lt q hq).1))
                  subst hv1
                  clear ho ho2 hg e1
                  go_wp2
                  go_roundw
                  case rel => exact ⟨6, by omega, by go_num, _, _, rfl, HO2, HB4⟩
                  case measure => simp [intOf]
                · clear p1 p2
                  have hix := idx6 (xa.toNat : Int) (xb.toNat : Int) (xc.toNat : Int) (xd.toNat : Int) (xe.toNat : Int) (xf.toNat : Int) (xg.toNat : Int) (xh.toNat : Int)
                  go_upto_region 15 with ((with_reducible refine gate_builtin (b := .append) (xs := #[.tmp 47, .tmp 59]) rfl ?_); at_builtin; refine wpList_append_G w.heap.size rfl (.tmp 47) (.tmp 59) 37 5 .u8 rfl Try.underlying37 infoByteS _ (nb (([xa, xb, xc, xd, xe, xf, xg, xh].take 6).flatMap wordB)) _ _ _ _ rfl rfl (HO.out.kept fun g hg => Go.heap_alloc_old _ _ (HO.out.lt g hg).2) (lit4 _ _ _ _ _) (by have := HBz.out; rw [heap_size_alloc]; omega) (by have := Hw.out 6 (by omega); omega) ?_)
                  intro v1 w1 ho hg _
                  have e1 := (wb_step [xa, xb, xc, xd, xe, xf, xg, xh] 6 xg rfl).trans (congrArg (_ ++ ·) (nbw xg))
                  have ho2 : OwnG w1 w.heap.size 5 .u8 v1 (nb (([xa, xb, xc, xd, xe, xf, xg, xh].take 7).flatMap wordB)) := by rw [e1]; exact ho
                  obtain ⟨ad3, cap3, hv1⟩ := ownG_shape ho2
                  rw [Hw.out 7 (by omega)] at hv1
                  have HO2 := Aside0.mk ho2
                  have HB4 := Aside0.mk ((HB3.out.alloc HBz.out _).grown hg (by have := HBz.out; rw [heap_size_alloc]; omega) (fun q hq => (HO.out.lt q hq).1))
                  subst hv1
                  clear ho ho2 hg e1
                  go_wp2
                  go_roundw
                  case rel => exact ⟨7, by omega, by go_num, _, _, rfl, HO2, HB4⟩
                  case measure => simp [intOf]
                · clear p1 p2
                  have hix := idx7 (xa.toNat : Int) (xb.toNat : Int) (xc.toNat : Int) (xd.toNat : Int) (xe.toNat : Int) (xf.toNat : Int) (xg.toNat : Int) (xh.toNat : Int)
                  go_upto_region 15 with ((with_reducible refine gate_builtin (b := .append) (xs := #[.tmp 47, .tmp 59]) rfl ?_); at_builtin; refine wpList_append_G w.heap.size rfl (.tmp 47) (.tmp 59) 37 5 .u8 rfl Try.underlying37 infoByteS _ (nb (([xa, xb, xc, xd, xe, xf, xg, xh].take 7).flatMap wordB)) _ _ _ _ rfl rfl (HO.out.kept fun g hg => Go.heap_alloc_old _ _ (HO.out.lt g hg).2) (lit4 _ _ _ _ _) (by have := HBz.out; rw [heap_size_alloc]; omega) (by have := Hw.out 7 (by omega); omega) ?_)
                  intro v1 w1 ho hg _
                  have e1 := (wb_step [xa, xb, xc, xd, xe, xf, xg, xh] 7 xh rfl).trans (congrArg (_ ++ ·) (nbw xh))
                  have ho2 : OwnG w1 w.heap.size 5 .u8 v1 (nb (([xa, xb, xc, xd, xe, xf, xg, xh].take 8).flatMap wordB)) := by rw [e1]; exact ho
                  obtain ⟨ad3, cap3, hv1⟩ := ownG_shape ho2
                  rw [Hw.out 8 (by omega)] at hv1
                  have HO2 := Aside0.mk ho2
                  have HB4 := Aside0.mk ((HB3.out.alloc HBz.out _).grown hg (by have := HBz.out; rw [heap_size_alloc]; omega) (fun q hq => (HO.out.lt q hq).1))
                  subst hv1
                  clear ho ho2 hg e1
                  go_wp2
                  go_roundw
                  case rel => exact ⟨8, by omega, by go_num, _, _, rfl, HO2, HB4⟩
                  case measure => simp [intOf]
              · obtain rfl : i = 8 := by omega
                have kc := ownG_text (n := 32) HO.out
                have Hr := Aside0.mk (show (⟨(outB ⟨xa, xb, xc, xd, xe, xf, xg, xh⟩).toArray⟩ : ByteArray) = ⟨(([xa, xb, xc, xd, xe, xf, xg, xh].take 8).flatMap wordB).toArray⟩ from rfl)
                clear hi hlt
                go_wp2
                go_ret
                exact ⟨by rw [Hfin.out]; rfl, HB3.out⟩
end Go.Proofs.Ytehnpmkfgdmmmaa.Sha
