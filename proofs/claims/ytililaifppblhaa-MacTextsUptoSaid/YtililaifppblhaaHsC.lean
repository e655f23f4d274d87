/- Walks: Write, of a Hasher. -/
import Derived.Test.YtililaifppblhaaHsB
namespace Go.Proofs.Ytililaifppblhaa.Sha
open Go Go.RowKit Go.Proofs.Ytililaifppblhaa Go.Proofs.YtililaifppblhaaW.PrintWords
set_option linter.unusedVariables false
set_option linter.unusedSimpArgs false

theorem HB.text {h : Nat} {S : S8} {R : List UInt8} {n all : Nat} {w : World} (H : HB h S R n all w) : (convert 28 9 (.slice (some ⟨h, 8, none⟩) 64 64)).run Try.prog w = .ok (.string ⟨R.toArray⟩) w := by
  have hl := H.len
  have hcv := run_convert_bytes_arg (P := Try.prog) w 28 5 Try.underlying28 Try.underlying5 h 8 64 64 (R.map fun c => (c.toNat : Int)) (by rw [List.length_map, hl]) (fun i hi => by
    rw [H.cb i hi, List.getD_eq_getElem?_getD, List.getD_eq_getElem?_getD, List.getElem?_map, List.getElem?_eq_getElem (by omega)]; rfl) 9 Try.underlying9
  rw [← row_str]
  exact hcv
theorem Kb.trans {h : Nat} {w w1 w2 : World} (k : Kb h w w1) (k2 : Kb h w1 w2) : Kb h w w2 :=
  ⟨k2.os.trans k.os, k2.tape.trans k.tape, k2.output.trans k.output, Nat.le_trans k.size k2.size, fun i hi hn => (k2.block i (Nat.lt_of_lt_of_le hi k.size) hn).trans (k.block i hi hn)⟩
/-! ### What was written -/
theorem foldB_app : ∀ (q : Nat) (s : S8) (l m : List UInt8), 64 * q ≤ l.length → foldB q s (l ++ m) = foldB q s l
  | 0, _, _, _, _ => rfl
  | q + 1, s, l, m, h => by
    rw [foldB, foldB, List.take_append_of_le_length (by omega), List.drop_append_of_le_length (by omega)]
    exact foldB_app q _ _ _ (by rw [List.length_drop]; omega)
/-- A Hasher's words and its last bytes, behind a text. -/
structure Absd (S : S8) (R : List UInt8) (n : Nat) (msg : List UInt8) : Prop where
  cnt : n = msg.length % 64
  st : S = foldB (msg.length / 64) first8 msg
  tl : R.take n = msg.drop (64 * (msg.length / 64))
def HX (h : Nat) (msg : List UInt8) (all : Nat) (w : World) : Prop := ∃ S R n, HB h S R n all w ∧ Absd S R n msg
theorem absd_nil : Absd first8 (List.replicate 64 0) 0 [] := ⟨rfl, rfl, rfl⟩
def lay (R : List UInt8) (n : Nat) (p : List UInt8) : List UInt8 := R.take n ++ p ++ R.drop (n + p.length)
theorem lay_len (R : List UInt8) (n : Nat) (p : List UInt8) (h : n + p.length ≤ R.length) : (lay R n p).length = R.length := by
  unfold lay
  simp only [List.length_append, List.length_take, List.length_drop]
  omega
theorem lay_take (R : List UInt8) (n : Nat) (p : List UInt8) (h : n + p.length ≤ R.length) : (lay R n p).take (n + p.length) = R.take n ++ p := by
  unfold lay
  have e : (R.take n ++ p).length = n + p.length := by rw [List.length_append, List.length_take]; omega
  rw [← e, List.take_left]
theorem absd_some {S : S8} {R : List UInt8} {n : Nat} {msg p : List UInt8} (H : Absd S R n msg) (hR : R.length = 64) (h : n + p.length < 64) : Absd S (lay R n p) (n + p.length) (msg ++ p) := by
  obtain ⟨hn, hs, hr⟩ := H
  have hq : (msg ++ p).length / 64 = msg.length / 64 := by rw [List.length_append]; omega
  refine ⟨by rw [List.length_append]; omega, ?_, ?_⟩
  · rw [hq, foldB_app _ _ _ _ (by omega), hs]
  · rw [hq, lay_take R n p (by omega), hr, List.drop_append_of_le_length (by omega)]
theorem absd_full {S : S8} {R : List UInt8} {n : Nat} {msg p : List UInt8} (H : Absd S R n msg) (hR : R.length = 64) (h : n + p.length = 64) : Absd (blockV S (lay R n p)) (lay R n p) 0 (msg ++ p) := by
  obtain ⟨hn, hs, hr⟩ := H
  have hq : (msg ++ p).length / 64 = msg.length / 64 + 1 := by rw [List.length_append]; omega
  have hl := lay_len R n p (by omega)
  have ht := lay_take R n p (by omega)
  rw [h, List.take_of_length_le (by omega), hr, ← List.drop_append_of_le_length (by omega)] at ht
  refine ⟨by rw [List.length_append]; omega, ?_, ?_⟩
  · rw [hq, foldB_snoc, foldB_app _ _ _ _ (by omega), ← hs, ← ht, List.take_of_length_le (by omega)]
  · rw [hq, List.take_zero, List.drop_eq_nil_of_le (by rw [List.length_append]; omega)]

theorem step_copy_rowstr {P : Program} {ops : Array Oper} {o : Oper} {a : Act} {w : World} {K : Act → World → Prop} {Q : Exit → Act → World → Prop} {E : Prop}
    (hg : o.guard = none) (d x : Operand) (dT sT : TypeId) (hop : o.op = Op.call { callee := Callee.builtin Builtin.copy, args := #[d, x], argTypes := #[dT, sT] })
    (elem : TypeId) (hu : P.underlying dT = some (.slice elem)) (hz : (P.info? elem).map (·.size) = some 1)
    (b off dLen dCap : Nat) (hd : a.eval d = .slice (some ⟨b, off, none⟩) dLen dCap) (t : ByteArray) (hx : a.eval x = .string t)
    (cur : Array Value) (ty : TypeId) (hrow : w.heap[b]? = some (.cells cur ty (0, 0))) (k : Nat) (hk : k = Nat.min t.size dLen) (hfit : off + k ≤ cur.size)
    (hK : K (a.put o.dst (goInt k)) (w.setRow b (cur.toList.take off ++ (Lib.byteCells (t.data.toList.take k) ++ cur.toList.drop (off + k))).toArray)) :
    if Region.wanted o (yielded ops a.tmps) = true then Oper.wp P o a w K Q else E := by
  have hw : Region.wanted o (yielded ops a.tmps) = true := by simp [Region.wanted, hg]
  rw [if_pos hw]
  have hl : (Lib.byteCells (t.data.toList.take k)).length = k := by
    rw [Lib.byteCells_length, List.length_take, Array.length_toList]
    have : t.data.size = t.size := rfl
    have h2 : Nat.min t.size dLen ≤ t.size := Nat.min_le_left _ _
    omega
  have hst := run_storeCells_at P b off ty (Lib.byteCells (t.data.toList.take k)) 0 cur w hrow (by rw [hl]; simpa using hfit) (Lib.byteCells_one _)
  have hrun : (Builtin.copy_ #[dT, sT] o.type #[.slice (some ⟨b, off, none⟩) dLen dCap, .string t]).run P w = .ok (goInt k) (w.setRow b (cur.toList.take off ++ (Lib.byteCells (t.data.toList.take k) ++ cur.toList.drop (off + k))).toArray) := by
    rw [hl] at hst
    simp only [Nat.add_zero, List.append_assoc] at hst
    cases hq : P.info? elem with
    | none => simp [hq] at hz
    | some i =>
      have htk : List.take k (List.map (fun b : UInt8 => Value.int IntKind.u8 (b.toNat : Int)) t.data.toList) = Lib.byteCells (t.data.toList.take k) := by
        rw [← List.map_take]; rfl
      simp [Builtin.copy_, run_underlying hu, Builtin.lenOf, Builtin.firstCells, sizeOf, typeInfo, hq, ← hk]
      rw [htk, hst]
      simp [Result.andThen]
  unfold Oper.wp
  simp [execOp, hop, resolve, invoke, builtin, hd, hx, hrun, Result.andThen]
  exact hK
theorem hcs_lay (S : S8) (R : List UInt8) (n all m : Nat) (h : R.length = 64) (p : List UInt8) (hp : n + p.length ≤ 64) : ((hcs S R m all).toList.take (8 + n) ++ Lib.byteCells p ++ (hcs S R m all).toList.drop (8 + n + p.length)).toArray = hcs S (lay R n p) m all := by
  have e8 : (cvs S.l).toList.length = 8 := by rw [Array.length_toList, S8.len]
  have eb : ∀ l : List UInt8, (bcs l).toList = Lib.byteCells l := fun l => by simp [bcs, Lib.byteCells]
  have hb : (Lib.byteCells R).length = 64 := by rw [Lib.byteCells_length]; exact h
  have ea : ∀ l m : List UInt8, Lib.byteCells (l ++ m) = Lib.byteCells l ++ Lib.byteCells m := fun l m => by simp [Lib.byteCells]
  have et : ∀ (l : List UInt8) (k : Nat), Lib.byteCells (l.take k) = (Lib.byteCells l).take k := fun l k => by simp [Lib.byteCells]
  have ed : ∀ (l : List UInt8) (k : Nat), Lib.byteCells (l.drop k) = (Lib.byteCells l).drop k := fun l k => by simp [Lib.byteCells]
  apply Array.ext'
  unfold hcs lay
  simp only [Array.toList_append, eb, ea, et, ed]
  rw [List.take_append, List.take_of_length_le (by omega), e8, Nat.add_sub_cancel_left, List.take_append_of_le_length (by omega), List.drop_append, List.drop_eq_nil_of_le (by omega), e8, show 8 + n + p.length - 8 = n + p.length by omega, List.drop_append_of_le_length (by omega)]
  simp
theorem HB.laid {h : Nat} {S : S8} {R : List UInt8} {n all m : Nat} {w : World} (H : HB h S R m all w) (p : List UInt8) (hp : n + p.length ≤ 64) (k : Nat) (hk : k = p.length) : HB h S (lay R n p) m all (w.setRow h ((hcs S R m all).toList.take (8 + n) ++ (Lib.byteCells p ++ (hcs S R m all).toList.drop (8 + n + k))).toArray) := by
  subst hk
  rw [← List.append_assoc, hcs_lay S R n all m H.len p hp]
  exact ⟨setRow_heap _ _ _ _ _ _ H.row, by rw [lay_len _ _ _ (by rw [H.len]; exact hp)]; exact H.len⟩
theorem toList_nil (s : ByteArray) (h : s.size = 0) : s.toList = [] := by
  have : s.data.toList.length = 0 := by rw [Array.length_toList]; exact h
  rw [ByteArray.toList_eq, List.eq_nil_of_length_eq_zero this]
theorem isEmpty_not (s : ByteArray) (h : ¬ s.size = 0) : s.toList.isEmpty = false := by
  have : s.data.toList.length ≠ 0 := by rw [Array.length_toList]; exact h
  rw [ByteArray.toList_eq]
  cases hl : s.data.toList with
  | nil => simp [hl] at this
  | cons a l => rfl
def stl : Value → Nat | .string s => s.size | _ => 0
set_option maxHeartbeats 1000000 in
set_option maxRecDepth 100000 in
theorem write_any (h : Nat) (msg : List UInt8) (all : Nat) (s : ByteArray) (w : World) (H : HX h msg all w) (hs : s.size ≤ 2305843009213693952) (ha : all ≤ 2305843009213693952) :
    Calls Try.prog 16 #[.pointer (some ⟨h, 0, none⟩), .string s] w fun e w' => e = .returned (.tuple #[]) ∧ HX h (msg ++ s.data.toList) (all + s.size) w' ∧ Kb h w w' := by
  obtain ⟨S, R, n, HH, Ha⟩ := H
  have ca := HH.ca
  have fa := HH.fz 73
  have Hs := Aside0.mk hs
  have Ha := Aside0.mk Ha
  have H0 := Aside0.mk (show HX h (msg ++ s.data.toList.take 0) (all + s.size) (w.setCell ⟨h, 73, none⟩ (.int .i64 ((all + s.size : Nat) : Int))) from ⟨S, R, n, HH.seta _, by simpa using Ha.out⟩)
  have HK := Aside0.mk ((Kb.refl h w).cell ⟨h, 73, none⟩ (.int .i64 ((all + s.size : Nat) : Int)) (.inr rfl))
  have HH := Aside0.mk HH
  rw [Int.natCast_add] at H0 HK
  go_enter Try.func16, Try.ntmps16
  go_wp2_with ((first | (go_at_call 37; refine (start_any _ _ _ _ _ _ HH.out).mono ?_; rintro e w1 ⟨rfl, rfl⟩)))
  clear HH Ha ca fa
  go_loopw [1] (fun sv wr => ∃ k : Nat, k ≤ s.size ∧ sv = .string (s.extract k s.size) ∧ Aside0 (HX h (msg ++ s.data.toList.take k) (all + s.size) wr) ∧ Aside0 (Kb h w wr)) (fun sv _ => stl sv)
  case atStart => exact ⟨0, Nat.zero_le _, by rw [ByteArray.extract_zero_size], H0, HK⟩
  case round =>
    clear H0 HK
    obtain ⟨k, hk, rfl, HX1, HK⟩ := hrel
    have hT : (s.extract k s.size).size = s.size - k := by rw [ByteArray.size_extract]; omega
    have hTd : (s.extract k s.size).data.toList = s.data.toList.drop k := by
      rw [Lib.extract_data, List.take_of_length_le]
      rw [List.length_drop, Array.length_toList]
      have : s.data.size = s.size := rfl
      omega
    obtain ⟨T, hTe⟩ : ∃ T, s.extract k s.size = T := ⟨_, rfl⟩
    rw [hTe] at hT hTd ⊢
    by_cases hlt : k < s.size
    · obtain ⟨S1, R1, n1, HB1, Ha1⟩ := HX1.out
      clear HX1
      have hn1 : n1 < 64 := by rw [Ha1.cnt]; exact Nat.mod_lt _ (by omega)
      have he := isEmpty_not T (by omega)
      have c72 := HB1.cn
      have f72 := HB1.fz 72
      obtain ⟨k1, hk1⟩ : ∃ k1, k1 = min T.size (64 - n1) := ⟨_, rfl⟩
      have Hk1 := Aside0.mk hk1
      have k1a : n1 + k1 ≤ 64 := by omega
      have k1b : k1 ≤ T.size := by omega
      have k1c : 1 ≤ k1 := by omega
      have h64 : ¬ (64 = n1) := by omega
      have HT := Aside0.mk hT
      have HTd := Aside0.mk hTd
      have HTe := Aside0.mk hTe
      have HB1 := Aside0.mk HB1
      have Ha1 := Aside0.mk Ha1
      have HB1L := Aside0.mk HB1.out.len
      have n1i : (0 : Int) ≤ (n1 : Int) := by omega
      have n1j : (n1 : Int) ≤ 64 := by omega
      clear hT hTd hTe hk1
      go_upto_region 4 with fail
      go_region_law (refine step_copy_rowstr rfl (.tmp 27) (.tmp 28) 28 9 rfl 5 Try.underlying28 (by kernel_rfl) h (8 + n1) (64 - n1) (64 - n1) rfl T rfl _ _ HB1.out.row k1 Hk1.out (by rw [hcs_size _ _ _ _ HB1.out.len]; omega) ?_)
      have hTl : T.data.toList.length = T.size := Array.length_toList
      have hpl : (T.data.toList.take k1).length = k1 := by rw [List.length_take]; omega
      have HL := Aside0.mk (HB1.out.drew.laid (n := n1) (T.data.toList.take k1) (by omega) k1 hpl.symm)
      have HK2 := Aside0.mk ((HK.out.drew).row h ((hcs S1 R1 n1 (all + s.size)).toList.take (8 + n1) ++ (Lib.byteCells (T.data.toList.take k1) ++ (hcs S1 R1 n1 (all + s.size)).toList.drop (8 + n1 + k1))).toArray (.inr rfl))
      have hd2 : s.data.toList.take k ++ T.data.toList.take k1 = s.data.toList.take (k + k1) := by
        rw [HTd.out, List.take_add]
      have Hd2 := Aside0.mk hd2
      have hTe2 : T.extract k1 T.size = s.extract (k + k1) s.size := by
        apply row_data_inj
        rw [Lib.extract_data, HTd.out, Lib.extract_data, List.drop_drop, HT.out, List.take_of_length_le, List.take_of_length_le]
        · rw [List.length_drop, Array.length_toList]
          have : s.data.size = s.size := rfl
          omega
        · rw [List.length_drop, Array.length_toList]
          have : s.data.size = s.size := rfl
          omega
      have HTe2 := Aside0.mk hTe2
      have Hpl := Aside0.mk hpl
      have k1d : (k1 : Int) ≤ (T.size : Int) := by omega
      have k1e : (0 : Int) ≤ (k1 : Int) := by omega
      generalize (wr.drew).setRow h _ = w2 at HL HK2 ⊢
      clear hTl hpl hTe2 hd2 c72 f72 he HB1
      obtain ⟨L, hL⟩ : ∃ L, lay R1 n1 (T.data.toList.take k1) = L := ⟨_, rfl⟩
      have HLe := Aside0.mk hL
      rw [hL] at HL
      clear hL
      have c72 := HL.out.cn
      have f72 := HL.out.fz 72
      have HB3 := Aside0.mk (HL.out.setn (n1 + k1))
      have HK3 := Aside0.mk (HK2.out.cell ⟨h, 72, none⟩ (.int .i64 ((n1 + k1 : Nat) : Int)) (.inr rfl))
      rw [Int.natCast_add] at HB3 HK3
      by_cases hfull : n1 + k1 = 64
      · have hfi : (n1 : Int) + (k1 : Int) = 64 := by omega
        have h9 := absd_full Ha1.out HB1L.out (p := T.data.toList.take k1) (by rw [Hpl.out]; exact hfull)
        rw [HLe.out] at h9
        rw [hfi] at HB3 HK3
        rw [hfull] at HB3
        have H9 := Aside0.mk h9
        have hLs : (⟨L.toArray⟩ : ByteArray).size = 64 := by rw [← HL.out.len]; exact List.size_toArray
        have HLs := Aside0.mk hLs
        have hsl : ∀ wx, (Instr.sliceAt 51 (.pointer (some ⟨h, 8, none⟩)) none none none).run Try.prog wx = .ok (.slice (some ⟨h, 8, none⟩) 64 64) wx := fun wx => by kernel_rfl
        have hcv := (HB3.out.drew).text
        clear h9 hLs k1a k1b k1c hn1
        go_upto_region 8 with fail
        go_region_with (first | (go_at_call 38; refine (block_any h S1 (bcs L ++ t3 64 (all + s.size)) _ ⟨L.toArray⟩ _ HB3.out.drew.row HLs.out).mono ?_; rintro e1 w4 ⟨rfl, hrow, hkb⟩; have HB4 := Aside0.mk (show HB h (blockV S1 L) L 64 (all + s.size) w4 from ⟨hrow, HL.out.len⟩); have HK4 := Aside0.mk (HK3.out.drew.trans hkb); clear hrow hkb))
        all_goals
          have c72 := HB4.out.cn
          have f72 := HB4.out.fz 72
          have HB5 := Aside0.mk (HB4.out.setn 0)
          have HK5 := Aside0.mk (HK4.out.cell ⟨h, 72, none⟩ (.int .i64 ((0 : Nat) : Int)) (.inr rfl))
          go_wp2
          go_roundw
          case rel =>
            refine ⟨k + k1, by have := HT.out; have := Hk1.out; omega, by rw [HTe2.out], ⟨blockV S1 L, L, 0, HB5.out, ?_⟩, HK5⟩
            rw [← Hd2.out, ← List.append_assoc]
            exact H9.out
          case measure => have := Hk1.out; have := HT.out; simp [stl, ByteArray.size_extract]; omega
      · have hfi : ¬ ((n1 : Int) + (k1 : Int) = 64) := by omega
        have e0 : ((64 : Nat) : Int) = 64 := rfl
        have he2 : (((n1 : Int) + (k1 : Int)) == 64) = false := by simpa using hfi
        clear e0
        go_wp2
        go_roundw
        case rel =>
          refine ⟨k + k1, by have := HT.out; omega, by rw [HTe2.out], ⟨S1, L, n1 + k1, HB3.out, ?_⟩, HK3⟩
          rw [← Hd2.out, ← List.append_assoc, ← HLe.out]
          have h9 := absd_some Ha1.out HB1L.out (p := T.data.toList.take k1) (by rw [Hpl.out]; omega)
          rw [Hpl.out] at h9
          exact h9
        case measure => simp [stl, ByteArray.size_extract]; omega
    · obtain rfl : k = s.size := by omega
      have he := toList_nil T (by omega)
      have HTd := Aside0.mk hTd
      clear hT hTd hTe
      have hX := HX1.out
      rw [List.take_of_length_le (by rw [Array.length_toList]; exact Nat.le_refl _)] at hX
      have HX2 := Aside0.mk hX
      clear hX HX1
      go_wp2
      go_end0
      exact ⟨rfl, HX2.out, HK.out⟩
end Go.Proofs.Ytililaifppblhaa.Sha
