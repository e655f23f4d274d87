/- Walks: Sum, of a Hasher. -/
import Derived.Test.YtililaifppblhaaHsC
import Derived.Test.YtililaifppblhaaBld
namespace Go.Proofs.Ytililaifppblhaa.Sha
open Go Go.RowKit Go.Proofs.Ytililaifppblhaa Go.Proofs.YtililaifppblhaaW.PrintWords
set_option linter.unusedVariables false
set_option linter.unusedSimpArgs false

theorem Below.of_eq {B : Nat} {w w' : World} (h : w' = w) : Below B w w' := by subst h; exact Below.refl _ _
theorem repeatL_one (c : UInt8) : ∀ n, Lib.repeatL [c] n = List.replicate n c
  | 0 => rfl
  | n + 1 => by
    show c :: Lib.repeatL [c] n = _
    rw [repeatL_one c n]; rfl
theorem repeat_any (z : Nat) (w : World) (hz : z ≤ 64) : Calls Try.prog 39 #[.string ⟨#[0]⟩, .int .i64 (z : Int)] w fun e w' => ∃ t : ByteArray, e = .returned (.string t) ∧ t.data.toList = List.replicate z 0 ∧ t.size = z ∧ Below w.heap.size w w' := by
  rcases (show z = 0 ∨ z = 1 ∨ 2 ≤ z by omega) with rfl | rfl | h2
  · refine (Try.strings_Repeat_zero ⟨#[0]⟩ w).mono ?_
    rintro e w' ⟨rfl, h⟩
    exact ⟨_, rfl, rfl, rfl, Below.of_eq h⟩
  · refine (Try.strings_Repeat_one ⟨#[0]⟩ w).mono ?_
    rintro e w' ⟨rfl, h⟩
    exact ⟨_, rfl, rfl, rfl, Below.of_eq h⟩
  · refine (Try.strings_Repeat_main ⟨#[0]⟩ z w h2 (by omega) (by show 1 * z ≤ _; omega) (by decide)).mono ?_
    rintro e w' ⟨rfl, h⟩
    have e1 : Lib.repeatL ([0] : List UInt8) z = List.replicate z 0 := repeatL_one 0 z
    refine ⟨_, rfl, e1, ?_, h⟩
    show ((Lib.repeatL ([0] : List UInt8) z).toArray).size = z
    rw [e1]; simp
theorem number_n (m : Nat) (w : World) (hm : m < 18446744073709551616) : Calls Try.prog 40 #[.int .u64 (m : Int)] w fun e w' => ∃ t : ByteArray, e = .returned (.string t) ∧ t.data.toList = numB m ∧ t.size = 8 ∧ Below w.heap.size w w' := by
  refine (number_any m w hm).mono ?_
  rintro e w' ⟨rfl, h⟩
  exact ⟨_, rfl, rfl, rfl, h⟩
theorem fresh_builder (w : World) : BldF w.heap.size w.heap.size [] (w.alloc (.cells #[.pointer none, .slice none 0 0] 57)) := Lib.IsBuilderF.of (Lib.fresh_isBuilder 57 5 w)
theorem BldF.below {B b : Nat} {bs : List Value} {w w1 : World} (h : BldF B b bs w) (hb : Below w.heap.size w w1) : BldF B b bs w1 := by
  have hg : w.grownBy w1 none := ⟨hb.os, hb.tape, hb.output, hb.size, fun k hk _ => hb.block k hk⟩
  rcases h with h | h
  · have hlt := h.lt
    obtain ⟨hB, v, h1, hown, hne⟩ := h
    exact .inl ⟨hB, v, (hb.block _ hlt).trans h1, hown.kept hg (by cases hv : v.ownBlock <;> simp), hne⟩
  · have hlt := h.lt
    obtain ⟨hB, v, h1, hown, hne⟩ := h
    exact .inr ⟨hB, v, (hb.block _ hlt).trans h1, hown.kept hg (by cases hv : v.ownBlock <;> simp), hne⟩
theorem BldF.lt {B b : Nat} {bs : List Value} {w : World} (h : BldF B b bs w) : b < w.heap.size := by
  rcases h with h | h <;> exact h.lt
theorem kb_below {B c : Nat} {w0 w1 w2 : World} (hb : Below B w0 w1) (hk : Kb c w1 w2) (h1 : B ≤ c) (h2 : B ≤ w1.heap.size) : Below B w0 w2 :=
  ⟨hk.os.trans hb.os, hk.tape.trans hb.tape, hk.output.trans hb.output, Nat.le_trans hb.size hk.size, fun k hk' => (hk.block k (by omega) (by omega)).trans (hb.block k hk')⟩
theorem HX.fin {c : Nat} {msg : List UInt8} {all : Nat} {w : World} (H : HX c msg all w) : ∃ R n, HB c (foldB (msg.length / 64) first8 msg) R n all w := by
  obtain ⟨S, R, n, H1, H2⟩ := H
  rw [← H2.st]
  exact ⟨R, n, H1⟩
theorem HB.cw {h : Nat} {S : S8} {R : List UInt8} {n all : Nat} {w : World} (H : HB h S R n all w) (i : Nat) (x : V) (hx : S.l[i]? = some x) : w.cell? ⟨h, i, none⟩ = some (.int .u32 (x.toNat : Int)) := by
  have hi : i < 8 := (List.getElem?_eq_some_iff.1 hx).1
  rw [cell_of_row _ _ _ _ _ _ H.row]
  unfold hcs
  rw [Array.getElem?_append_left (by rw [S8.len]; exact hi)]
  simp [cvs, hx]
theorem idxS (S : S8) (i : Nat) (hi : i < 8) (w : World) : (Instr.index 49 (.agg #[.int .u32 (S.a.toNat : Int), .int .u32 (S.b.toNat : Int), .int .u32 (S.c.toNat : Int), .int .u32 (S.d.toNat : Int), .int .u32 (S.e.toNat : Int), .int .u32 (S.f.toNat : Int), .int .u32 (S.g.toNat : Int), .int .u32 (S.h.toNat : Int)]) (.int .i64 (i : Int))).run Try.prog w = .ok (.int .u32 ((S.l.getD i 0).toNat : Int)) w := by
  rcases (show i = 0 ∨ i = 1 ∨ i = 2 ∨ i = 3 ∨ i = 4 ∨ i = 5 ∨ i = 6 ∨ i = 7 by omega) with rfl | rfl | rfl | rfl | rfl | rfl | rfl | rfl <;> kernel_rfl
theorem numB_tail (x : V) : (numB x.toNat).drop 4 = wordB x := by
  have := x.isLt
  unfold numB wordB
  rfl
theorem wordB_len (x : V) : (wordB x).length = 4 := rfl
theorem flat_len : ∀ L : List V, (L.flatMap wordB).length = 4 * L.length
  | [] => rfl
  | x :: L => by rw [List.flatMap_cons, List.length_append, flat_len L, List.length_cons, wordB_len]; omega
theorem flat_step (S : S8) (i : Nat) (hi : i < 8) : (S.l.take (i + 1)).flatMap wordB = (S.l.take i).flatMap wordB ++ wordB (S.l.getD i 0) := by
  rw [List.take_succ_eq_append_getElem (show i < S.l.length from hi), List.flatMap_append, List.getD_eq_getElem?_getD, List.getElem?_eq_getElem (show i < S.l.length from hi)]
  simp
/-- The state of Sum: the Hasher asked, its copy. -/
structure SB (w0 : World) (h c : Nat) (msg : List UInt8) (w : World) : Prop where
  hx : HX h msg msg.length w
  cx : HX c msg msg.length w
  be : Below w0.heap.size w0 w
  lt : h < w0.heap.size ∧ w0.heap.size ≤ c ∧ c < w.heap.size
theorem HX.kept {h : Nat} {msg : List UInt8} {all : Nat} {w w1 : World} (H : HX h msg all w) (e : w1.heap[h]? = w.heap[h]?) : HX h msg all w1 := by
  obtain ⟨S, R, n, H1, H2⟩ := H
  exact ⟨S, R, n, H1.kept e, H2⟩
theorem HX.lt {h : Nat} {msg : List UInt8} {all : Nat} {w : World} (H : HX h msg all w) : h < w.heap.size := by
  obtain ⟨S, R, n, H1, H2⟩ := H
  exact H1.lt
theorem HX.ca {h : Nat} {msg : List UInt8} {all : Nat} {w : World} (H : HX h msg all w) : w.cell? ⟨h, 73, none⟩ = some (.int .i64 (all : Int)) := by
  obtain ⟨S, R, n, H1, H2⟩ := H
  exact H1.ca
theorem HX.cn {h : Nat} {msg : List UInt8} {all : Nat} {w : World} (H : HX h msg all w) : w.cell? ⟨h, 72, none⟩ = some (.int .i64 ((msg.length % 64 : Nat) : Int)) := by
  obtain ⟨S, R, n, H1, H2⟩ := H
  rw [← H2.cnt]
  exact H1.cn
theorem SB.drew {w0 : World} {h c : Nat} {msg : List UInt8} {w : World} (H : SB w0 h c msg w) : SB w0 h c msg w.drew := ⟨H.hx.kept rfl, H.cx.kept rfl, H.be.drew, H.lt⟩
theorem SB.drewN {w0 : World} {h c : Nat} {msg : List UInt8} {w : World} (H : SB w0 h c msg w) (k : Nat) : SB w0 h c msg (w.drewN k) := ⟨H.hx.kept rfl, H.cx.kept rfl, pw_below_drewN H.be k, H.lt⟩
theorem SB.below {w0 : World} {h c : Nat} {msg : List UInt8} {w w1 : World} (H : SB w0 h c msg w) (hb : Below w.heap.size w w1) : SB w0 h c msg w1 := by
  have hz := H.be.size
  have hl := H.lt
  have hs := hb.size
  exact ⟨H.hx.kept (hb.block _ (by omega)), H.cx.kept (hb.block _ hl.2.2), H.be.trans (hb.mono hz), hl.1, hl.2.1, by omega⟩
theorem sb_start (w : World) (h : Nat) (S : S8) (R : List UInt8) (n : Nat) (msg : List UInt8) (zs : Array Value) (H : HB h S R n msg.length w) (Ha : Absd S R n msg) : SB w h w.heap.size msg ((w.alloc (.cells zs 53)).setRow w.heap.size (hcs S R n msg.length)) :=
  ⟨⟨S, R, n, H.kept (row_new_old _ _ _ _ _ H.lt), Ha⟩, ⟨S, R, n, ⟨row_new _ _ _ _, H.len⟩, Ha⟩, row_new_below _ _ _ _, H.lt, Nat.le_refl _, by rw [size_setRow]; simp⟩
set_option maxHeartbeats 1000000 in
set_option maxRecDepth 100000 in
theorem sum_any (h : Nat) (msg : List UInt8) (w : World) (H : HX h msg msg.length w) (hm : msg.length ≤ 1152921504606846976) :
    Calls Try.prog 17 #[.pointer (some ⟨h, 0, none⟩)] w fun e w' => e = .returned (.string ⟨(sumV msg).toArray⟩) ∧ Below w.heap.size w w' := by
  obtain ⟨S, R, n, HH, Ha⟩ := H
  have HG := Aside0.mk (sb_start w h S R n msg Try.zeroCells53 HH Ha)
  have hin := hcs_info S R n msg.length HH.len
  have Hz := Aside0.mk (show Try.zeroCells53.size = (hcs S R n msg.length).size by rw [hcs_size S R n msg.length HH.len]; kernel_rfl)
  have HH := Aside0.mk HH
  have hn : n < 64 := by rw [Ha.cnt]; exact Nat.mod_lt _ (by omega)
  have Ha := Aside0.mk Ha
  go_enter Try.func17, Try.ntmps17
  go_upto_region 4 with ((first | (go_at_call 37; refine (start_any _ _ _ _ _ _ HH.out).mono ?_; rintro e w1 ⟨rfl, rfl⟩)))
  go_upto_region 5 with ((first | (refine wpList_load_row rfl 53 _ rfl h rfl _ (hcs S R n msg.length) _ _ HH.out.row Try.underlying53 rfl hin ?_) | (refine wpList_store_row rfl 53 _ _ rfl w.heap.size (hcs S R n msg.length) rfl rfl _ _ (heap_alloc_new w _) hin Hz.out (hcs_one _ _ _ _) ?_)))
  generalize (w.alloc (.cells Try.zeroCells53 53)).setRow w.heap.size (hcs S R n msg.length) = W1 at HG ⊢
  obtain ⟨c, hc⟩ : ∃ c, w.heap.size = c := ⟨_, rfl⟩
  rw [hc] at HG ⊢
  have c72 := HG.out.hx.cn
  have c73 := HG.out.hx.ca
  rw [← Ha.out.cnt] at c72
  obtain ⟨L, hL⟩ : ∃ L, msg.length = L := ⟨_, rfl⟩
  have HL := Aside0.mk hL
  rw [hL] at c73 hm
  have n1 : (0 : Int) ≤ (n : Int) := by omega
  have n2 : (n : Int) < 64 := by omega
  have l1 : (0 : Int) ≤ (L : Int) := by omega
  have u1 : IntKind.u64.wrap (L : Int) = (L : Int) := by
    show (L : Int) % 18446744073709551616 = _
    omega
  have u2 : IntKind.u64.wrap (8 * (L : Int)) = ((8 * L : Nat) : Int) := by
    show (8 * (L : Int)) % 18446744073709551616 = _
    omega
  obtain ⟨z, hz⟩ : ∃ z, padN L = z := ⟨_, rfl⟩
  have hz2 : z ≤ 64 := by have := padN_lt L; omega
  have hz3 : (119 - (n : Int)) % 64 = (z : Int) := by
    have := Ha.out.cnt
    rw [hL] at this
    unfold padN at hz
    omega
  have Hz3 := Aside0.mk hz
  clear hin Hz hL hc hz HH Ha hn
  go_upto_region 6 with fail
  rw [hz3]
  clear hz3
  have HLL := Aside0.mk HL.out
  go_region_with (first
    | (go_at_call 39; refine (repeat_any z _ hz2).mono ?_; rintro e1 w2 ⟨t, rfl, ht, hts, hb⟩; have q1 : (9223372036854775807 < 1 + t.size) = False := eq_false (by omega); (try (have q2 : (9223372036854775807 < 1 + t.size + u.size) = False := eq_false (by have := Hus.out; omega))); have Ht := Aside0.mk ht; have Hts := Aside0.mk hts; have n0_ : SB w h c msg w2 := (by first | exact HG.out.below hb | exact HG.out.drew.below hb | exact (HG.out.drewN _).below hb); clear HG ht hts hb c73; have HG := Aside0.mk n0_; clear n0_; have c73 := HG.out.hx.ca; rw [HLL.out] at c73)
    | (go_at_call 40; refine (number_n (8 * L) _ (by omega)).mono ?_; rintro e1 w2 ⟨u, rfl, hu, hus, hb⟩; (try (have q2 : (9223372036854775807 < 1 + t.size + u.size) = False := eq_false (by have := Hts.out; omega))); have Hu := Aside0.mk hu; have Hus := Aside0.mk hus; have n0_ : SB w h c msg w2 := (by first | exact HG.out.below hb | exact HG.out.drew.below hb | exact (HG.out.drewN _).below hb); clear HG hu hus hb c73; have HG := Aside0.mk n0_; clear n0_; have c73 := HG.out.hx.ca; rw [HLL.out] at c73)
    | (go_at_call 16; refine (write_any c msg msg.length _ _ HG.out.cx (by rw [ByteArray.size_append, ByteArray.size_append, Hts.out, Hus.out]; show 1 + z + 8 ≤ _; omega) (by rw [HLL.out]; omega)).mono ?_; rintro e1 w3 ⟨rfl, hx, hk⟩; have Hx := Aside0.mk hx; have HBe := Aside0.mk (kb_below HG.out.be hk HG.out.lt.2.1 HG.out.be.size); clear hx hk))
  all_goals
    have hmsg : msg ++ (⟨#[128]⟩ ++ t ++ u : ByteArray).data.toList = padded msg := by
      unfold padded tailB
      rw [ByteArray.data_append, ByteArray.data_append, Array.toList_append, Array.toList_append, Ht.out, Hu.out, HLL.out, Hz3.out, Nat.mod_eq_of_lt (by omega)]
      simp
    obtain ⟨R3, n3, HB3⟩ := Hx.out.fin
    rw [hmsg] at HB3
    have HB3 := Aside0.mk HB3
    clear hmsg Hx HG c72 c73 q1 q2 Ht Hts Hu Hus u1 u2 hm l1
    obtain ⟨X, hX⟩ : ∃ X, foldB ((padded msg).length / 64) first8 (padded msg) = X := ⟨_, rfl⟩
    have HX := Aside0.mk hX
    rw [hX] at HB3
    clear hX
    obtain ⟨xa, xb, xc, xd, xe, xf, xg, xh⟩ := X
    have HB4 := Aside0.mk (HB3.out.kept (w1 := w3.alloc (.cells #[.pointer none, .slice none 0 0] 57)) (Go.heap_alloc_old _ _ HB3.out.lt))
    have c0a := HB4.out.cw 0 xa rfl
    have c1a := HB4.out.cw 1 xb rfl
    have c2a := HB4.out.cw 2 xc rfl
    have c3a := HB4.out.cw 3 xd rfl
    have c4a := HB4.out.cw 4 xe rfl
    have c5a := HB4.out.cw 5 xf rfl
    have c6a := HB4.out.cw 6 xg rfl
    have c7a := HB4.out.cw 7 xh rfl
    have Hbl := Aside0.mk (fresh_builder w3)
    have Hbe := Aside0.mk (HBe.out.alloc HBe.out.size (.cells #[.pointer none, .slice none 0 0] 57))
    go_wp2
    clear HB3 HB4 c0a c1a c2a c3a c4a c5a c6a c7a
    have Hg := Aside0.mk HBe.out.size
    generalize w3.heap.size = g at Hbl Hbe Hg ⊢
    obtain ⟨X, hXe⟩ : ∃ X : S8, X = ⟨xa, xb, xc, xd, xe, xf, xg, xh⟩ := ⟨_, rfl⟩
    have HXe := Aside0.mk hXe
    clear hXe
    go_loopw [35] (fun iv wr => ∃ i : Nat, i ≤ 8 ∧ iv = .int .i64 i ∧ Aside0 (BldF g g (Lib.byteCells ((([xa, xb, xc, xd, xe, xf, xg, xh] : List V).take i).flatMap wordB)) wr) ∧ Aside0 (Below w.heap.size w wr)) (fun iv _ => 8 - (intOf iv).toNat)
    case atStart => exact ⟨0, Nat.zero_le _, rfl, Hbl, Hbe⟩
    case round =>
      clear Hbl Hbe
      obtain ⟨i, hi, rfl, Hbl, Hbe⟩ := hrel
      by_cases hlt : i < 8
      · have hix := idxS ⟨xa, xb, xc, xd, xe, xf, xg, xh⟩ i hlt
        have hst := flat_step ⟨xa, xb, xc, xd, xe, xf, xg, xh⟩ i hlt
        obtain ⟨x, hx⟩ : ∃ x, (⟨xa, xb, xc, xd, xe, xf, xg, xh⟩ : S8).l.getD i 0 = x := ⟨_, rfl⟩
        rw [hx] at hst hix
        have Hst := Aside0.mk hst
        have hxl := x.isLt
        have i1 : (0 : Int) ≤ (i : Int) := by omega
        have i2 : (i : Int) < 8 := by omega
        clear hx hst
        have hlen : ((([xa, xb, xc, xd, xe, xf, xg, xh] : List V).take i).flatMap wordB).length ≤ 32 := by
          rw [flat_len, List.length_take]; omega
        have Hlen := Aside0.mk hlen
        clear hlen
        go_wp2_with fail
        refine (number_n x.toNat _ (by omega)).mono ?_
        rintro e1 w4 ⟨u, rfl, hu, hus, hb⟩
        have u4 : (4 : Int) ≤ (u.size : Int) := by omega
        have Hu := Aside0.mk hu
        have Hus := Aside0.mk hus
        have Hbl2 := Aside0.mk (BldF.below Hbl.out hb)
        have Hbe2 := Aside0.mk (Hbe.out.trans (hb.mono Hbe.out.size))
        clear hu hus hb
        have hex : (u.extract 4 u.size).data.toList = wordB x := by
          rw [Lib.extract_data, Hu.out, Hus.out, ← numB_tail]
          rfl
        have Hex := Aside0.mk hex
        have hes : (u.extract 4 u.size).size = 4 := by rw [ByteArray.size_extract, Hus.out]; omega
        have Hes := Aside0.mk hes
        clear hex hes
        go_wp2_with fail
        refine (bld_WriteString g g _ (u.extract 4 u.size) _ Hbl2.out (by rw [Lib.byteCells_length, Hes.out]; have := Hlen.out; omega) (Nat.le_of_lt (BldF.lt Hbl2.out))).mono ?_
        rintro e2 w5 ⟨rfl, hB1, hb1, _⟩
        have Hbl3 := Aside0.mk hB1
        have Hbe3 := Aside0.mk (Hbe2.out.trans (hb1.mono Hg.out))
        clear hB1 hb1 Hbl2 Hbe2
        go_wp2
        go_roundw
        case rel =>
          refine ⟨i + 1, by omega, by go_num, ⟨?_⟩, Hbe3⟩
          have h9 := Hbl3.out
          rw [Lib.strCells_eq, Hex.out, ← Lib.byteCells_append] at h9
          have h8 : (([xa, xb, xc, xd, xe, xf, xg, xh] : List V).take (i + 1)).flatMap wordB = (([xa, xb, xc, xd, xe, xf, xg, xh] : List V).take i).flatMap wordB ++ wordB x := Hst.out
          rw [h8]
          exact Or.inr h9
        case measure => simp [intOf]; omega
      · obtain rfl : i = 8 := by omega
        go_wp2_with fail
        refine (Try.Builder_String_any_f g g _ _ Hbl.out (Nat.le_of_lt (BldF.lt Hbl.out))).mono ?_
        rintro e2 w5 ⟨rfl, _, hb1⟩
        have Hbe3 := Aside0.mk (Hbe.out.trans (hb1.mono Hg.out))
        clear hb1
        go_wp2
        go_ret
        refine ⟨?_, Hbe3.out⟩
        have e9 : sumV msg = (([xa, xb, xc, xd, xe, xf, xg, xh] : List V).take 8).flatMap wordB := by
          unfold sumV outB
          rw [HX.out]; rfl
        rw [e9]
        rfl
end Go.Proofs.Ytililaifppblhaa.Sha
