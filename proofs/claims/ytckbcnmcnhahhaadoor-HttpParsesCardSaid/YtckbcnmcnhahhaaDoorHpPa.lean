/- HttpParses: the document's head and Parse in closed form; the plain law. -/
import Derived.Test.YtckbcnmcnhahhaaDoorPureHttpParses
namespace Go.Proofs.YtckbcnmcnhahhaaDoor.Pure
open Go Go.RowKit Go.Proofs.YtckbcnmcnhahhaaDoor Go.Proofs.YtckbcnmcnhahhaaDoor.PG Go.Proofs.YtckbcnmcnhahhaaDoorW.PrintWords Go.Proofs.YtckbcnmcnhahhaaDoorW.PrintLast
set_option linter.unusedVariables false
set_option linter.unusedSimpArgs false

def blk1 (s : ByteArray) : ByteArray × ByteArray × Bool := cutR s 0 1 (Lib.index s.data.toList [32])
theorem blk1_size (s : ByteArray) : (blk1 s).1.size ≤ s.size ∧ (blk1 s).2.1.size ≤ s.size := by
  unfold blk1 cutR
  split
  · exact ⟨Nat.zero_le _, Nat.zero_le _⟩
  · constructor
    · show (s.extract _ _).size ≤ _
      rw [ByteArray.size_extract]; omega
    · show (s.extract _ _).size ≤ _
      rw [ByteArray.size_extract]; omega
theorem words_val (s : ByteArray) (h1 : (blk1 s).2.2 = true) (h2 : (blk1 (blk1 s).2.1).2.2 = true) :
    rdOf ByteArray.empty (splitL s ⟨#[32]⟩) 0 = (blk1 s).1 ∧ rdOf ByteArray.empty (splitL s ⟨#[32]⟩) 1 = (blk1 (blk1 s).2.1).1 := by
  have hge := Lib.index_ge s.data.toList [32]
  by_cases c1 : Lib.index s.data.toList [32] = -1
  · unfold blk1 at h1
    rw [c1] at h1; cases h1
  · obtain ⟨i, hi⟩ : ∃ i : Nat, Lib.index s.data.toList [32] = i := ⟨(Lib.index s.data.toList [32]).toNat, by omega⟩
    have e1 : blk1 s = (s.extract 0 i, s.extract (i + 1) s.size, true) := by unfold blk1 cutR; rw [hi, if_neg (by omega), Int.toNat_natCast, Nat.zero_add]
    rw [e1] at h2 ⊢
    rw [splitL_hit s ⟨#[32]⟩ (by decide) i hi]
    refine ⟨rfl, ?_⟩
    show rdOf ByteArray.empty (s.extract 0 i :: splitL (s.extract (i + 1) s.size) ⟨#[32]⟩) 1 = (blk1 (s.extract (i + 1) s.size)).1
    have h2' : (blk1 (s.extract (i + 1) s.size)).2.2 = true := h2
    generalize s.extract (i + 1) s.size = m at *
    generalize s.extract 0 i = a at *
    have hgm := Lib.index_ge m.data.toList [32]
    by_cases c2 : Lib.index m.data.toList [32] = -1
    · unfold blk1 at h2'
      rw [c2] at h2'; cases h2'
    · obtain ⟨j, hj⟩ : ∃ j : Nat, Lib.index m.data.toList [32] = j := ⟨(Lib.index m.data.toList [32]).toNat, by omega⟩
      rw [splitL_hit m ⟨#[32]⟩ (by decide) j hj]
      unfold blk1 cutR
      rw [hj, if_neg (by omega), Int.toNat_natCast, Nat.zero_add]
      rfl
theorem first_ev (y first rest : ByteArray) (q : Bool) (hy : y.size ≤ 140737488351232) (hline : cutR y 0 2 (Lib.index y.data.toList [13, 10]) = (first, rest, q)) (hf : first.size ≤ 140737488351232) :
    (wordsR (splitL first ⟨#[32]⟩) = false → ∃ r : ByteArray × ByteArray × List S50 × ByteArray × Bool × Int, Ev (fun k => atriumref17_head.f k y) r ∧ r.2.2.2.2.2 = 170) ∧
    (wordsR (splitL first ⟨#[32]⟩) = true → ∀ r, Ev (fun k => atriumref17_head.l0 k rest (rdOf ByteArray.empty (splitL first ⟨#[32]⟩) 0) (rdOf ByteArray.empty (splitL first ⟨#[32]⟩) 1) [] ⟨#[]⟩ false) r → Ev (fun k => atriumref17_head.f k y) r) := by
  have hL := rline_ev y hy
  rw [hline] at hL
  obtain ⟨z1, z2⟩ := blk1_size first
  obtain ⟨z3, z4⟩ := blk1_size (blk1 first).2.1
  have hC1 : Ev (fun k => atriumref17_cut.f k first 32) (blk1 first) := rcut_ev first 32 hf
  have hC2 : Ev (fun k => atriumref17_cut.f k (blk1 first).2.1 32) (blk1 (blk1 first).2.1) := rcut_ev (blk1 first).2.1 32 (by omega)
  have hM := rmethod_ev (blk1 first).1 (by omega)
  have hT := rtarget_ev (blk1 (blk1 first).2.1).1 (by omega)
  have hw : wordsR (splitL first ⟨#[32]⟩) = ((blk1 first).2.2 && ((blk1 (blk1 first).2.1).2.2 && ((blk1 (blk1 first).2.1).2.1.toList == verL && lineOk (blk1 first).1 (blk1 (blk1 first).2.1).1))) := words_rel first
  have hv := words_val first
  rw [line_split] at hw
  rw [hw]
  generalize blk1 first = A at *
  generalize blk1 A.2.1 = B at *
  generalize (A.1.data.toList.all upC && (decide (1 ≤ A.1.size) && decide (A.1.size ≤ 16))) = mOk at *
  generalize (B.1.data.toList.all visC && (decide (1 ≤ B.1.size) && (decide (B.1.size ≤ 1024) && (bt B.1 0 == 47)))) = tOk at *
  have bad : Ev (fun k => atriumref17_head.j0 k rest A.1 B.1 true ⟨#[]⟩ ⟨#[]⟩ ⟨#[]⟩ false) (⟨#[]⟩, ⟨#[]⟩, [], ⟨#[]⟩, false, 170) :=
    Ev.step (fun k => by simp only [atriumref17_head.j0]; exact rfl) (evIfPos (show true = true from rfl) (Ev.now _))
  constructor
  · intro h
    refine ⟨(⟨#[]⟩, ⟨#[]⟩, [], ⟨#[]⟩, false, 170), ?_, rfl⟩
    unfold atriumref17_head.f
    refine Ev.bind hL (Ev.bind hC1 (Ev.bind hC2 ?_))
    cases hA : A.2.2 with
    | false => exact evIfNeg (by decide) bad
    | true =>
      refine evIfPos rfl ?_
      cases hB : B.2.2 with
      | false => exact evIfNeg (by decide) bad
      | true =>
        refine evIfPos rfl (Ev.bind hM ?_)
        cases mOk with
        | false => exact evIfNeg (by decide) bad
        | true =>
          refine evIfPos rfl (Ev.bind hT ?_)
          cases tOk with
          | false => exact evIfNeg (by decide) bad
          | true =>
            refine evIfPos rfl ?_
            rw [hA, hB, Bool.true_and, Bool.true_and, Bool.true_and, Bool.and_true] at h
            have : (B.2.1.toList != ([72, 84, 84, 80, 47, 49, 46, 49] : List UInt8)) = true := by
              show (!(B.2.1.toList == verL)) = true
              rw [h]; rfl
            show Ev (fun k => atriumref17_head.j0 k rest A.1 B.1 (B.2.1.toList != ([72, 84, 84, 80, 47, 49, 46, 49] : List UInt8)) ⟨#[]⟩ ⟨#[]⟩ ⟨#[]⟩ false) _
            rw [this]; exact bad
  · intro h r hr
    rw [Bool.and_eq_true, Bool.and_eq_true, Bool.and_eq_true, Bool.and_eq_true] at h
    obtain ⟨hA, hB, hV, hm, ht⟩ := h
    obtain ⟨v1, v2⟩ := hv hA hB
    rw [v1, v2] at hr
    subst hm; subst ht
    unfold atriumref17_head.f
    refine Ev.bind hL (Ev.bind hC1 (Ev.bind hC2 (evIfPos hA (evIfPos hB (Ev.bind hM (evIfPos rfl (Ev.bind hT (evIfPos rfl ?_))))))))
    have : (B.2.1.toList != ([72, 84, 84, 80, 47, 49, 46, 49] : List UInt8)) = false := by
      show (!(B.2.1.toList == verL)) = false
      rw [hV]; rfl
    show Ev (fun k => atriumref17_head.j0 k rest A.1 B.1 (B.2.1.toList != ([72, 84, 84, 80, 47, 49, 46, 49] : List UInt8)) ⟨#[]⟩ ⟨#[]⟩ ⟨#[]⟩ false) _
    rw [this]
    exact Ev.step (fun k => by simp only [atriumref17_head.j0]; exact rfl) (evIfNeg (by decide) hr)

def flds (x : ByteArray) : List S50 := ((splitL x ⟨#[13, 10]⟩).drop 1).map fldP
def wordsX (x : ByteArray) : List ByteArray := splitL (rdOf ByteArray.empty (splitL x ⟨#[13, 10]⟩) 0) ⟨#[32]⟩
theorem flds_small (x : ByteArray) (hx : x.size ≤ 4096) : (flds x).length ≤ 4097 ∧ smallF (flds x) := by
  constructor
  · unfold flds
    rw [List.length_map, List.length_drop, splitL_len x ⟨#[13, 10]⟩ (by decide)]
    have := Lib.countB_le ⟨#[13, 10]⟩ (by decide) x.size x (Nat.le_refl _)
    omega
  · intro f hf
    obtain ⟨y, hy, rfl⟩ := List.mem_map.1 hf
    have h1 := splitL_small x ⟨#[13, 10]⟩ y (List.mem_of_mem_drop hy)
    exact ⟨Nat.le_trans (nameP_size y) (by omega), Nat.le_trans (valueP_size y) (by omega)⟩
def rheadOk (x : ByteArray) : Bool := wordsR (wordsX x) && (((splitL x ⟨#[13, 10]⟩).drop 1).all okP && rfieldsP (flds x))
def rheadV (x : ByteArray) : ByteArray × ByteArray × List S50 × ByteArray × Bool × Int := (rdOf ByteArray.empty (wordsX x) 0, rdOf ByteArray.empty (wordsX x) 1, flds x, ⟨#[]⟩, closesP (flds x), 0)

theorem rhead_ev (x : ByteArray) (hx : x.size ≤ 4096) (hN : NoE x.data.toList) :
    (rheadOk x = false → ∃ r : ByteArray × ByteArray × List S50 × ByteArray × Bool × Int, Ev (fun k => atriumref17_head.f k (x ++ crlf4)) r ∧ r.2.2.2.2.2 = 170) ∧
    (rheadOk x = true → Ev (fun k => atriumref17_head.f k (x ++ crlf4)) (rheadV x)) := by
  have hl : x.data.toList.length = x.size := Array.length_toList
  have hsz : (x ++ crlf4).size = x.size + 4 := ByteArray.size_append
  have hdata : (x ++ crlf4).data.toList = x.data.toList ++ [13, 10, 13, 10] := by rw [ByteArray.data_append, Array.toList_append]; rfl
  have hge := Lib.index_ge x.data.toList [13, 10]
  obtain ⟨f1, f2⟩ := flds_small x hx
  by_cases hm : Lib.index x.data.toList [13, 10] = -1
  · have hsp : splitL x ⟨#[13, 10]⟩ = [x] := splitL_miss x ⟨#[13, 10]⟩ hm
    have hline : cutR (x ++ crlf4) 0 2 (Lib.index (x ++ crlf4).data.toList [13, 10]) = (x, ⟨#[13, 10]⟩, true) := by
      rw [hdata, crlf_app, hm, if_pos (by decide), hl]
      unfold cutR
      rw [if_neg (by omega), Int.toNat_natCast, Nat.zero_add, ext_app x crlf4 0 x.size (Nat.le_refl _), ByteArray.extract_zero_size]
      have : (x ++ crlf4).extract (x.size + 2) (x ++ crlf4).size = ⟨#[13, 10]⟩ := by
        apply row_data_inj
        rw [ByteArray.data_extract, Array.toList_extract, List.extract_eq_take_drop, hdata, hsz, ← hl, List.drop_append, List.drop_of_length_le (by omega), show x.data.toList.length + 2 - x.data.toList.length = 2 by omega]
        rw [show x.data.toList.length + 4 - (x.data.toList.length + 2) = 2 by omega]
        rfl
      rw [this]
    obtain ⟨s1, s2⟩ := first_ev (x ++ crlf4) x _ _ (by omega) hline (by omega)
    have hW : wordsX x = splitL x ⟨#[32]⟩ := by unfold wordsX; rw [hsp]; rfl
    have hF : flds x = [] := by unfold flds; rw [hsp]; rfl
    have hall : ((splitL x ⟨#[13, 10]⟩).drop 1).all okP = true := by rw [hsp]; rfl
    have hE := rhead_end (rdOf ByteArray.empty (splitL x ⟨#[32]⟩) 0) (rdOf ByteArray.empty (splitL x ⟨#[32]⟩) 1) ⟨#[]⟩ false (flds x) (by omega) f2
    rw [← hF] at s2
    unfold rheadOk rheadV
    rw [hall, Bool.true_and, hW]
    cases hw : wordsR (splitL x ⟨#[32]⟩) with
    | false => exact ⟨fun _ => s1 hw, fun h => by cases h⟩
    | true =>
      rw [Bool.true_and]
      cases hr : rfieldsP (flds x) with
      | false =>
        rw [hr, if_neg Bool.false_ne_true] at hE
        exact ⟨fun _ => ⟨_, s2 hw _ hE, rfl⟩, fun h => by cases h⟩
      | true =>
        rw [hr, if_pos rfl] at hE
        exact ⟨fun h => (by cases h), fun _ => s2 hw _ hE⟩
  · obtain ⟨i, hi⟩ : ∃ i : Nat, Lib.index x.data.toList [13, 10] = i := ⟨(Lib.index x.data.toList [13, 10]).toNat, by omega⟩
    have hroom := index_room x.data.toList [13, 10] (by omega)
    have h2l : ([13, 10] : List UInt8).length = 2 := rfl
    have hsp : splitL x ⟨#[13, 10]⟩ = x.extract 0 i :: splitL (x.extract (i + 2) x.size) ⟨#[13, 10]⟩ := splitL_hit x ⟨#[13, 10]⟩ (by decide) i hi
    have hline : cutR (x ++ crlf4) 0 2 (Lib.index (x ++ crlf4).data.toList [13, 10]) = (x.extract 0 i, x.extract (i + 2) x.size ++ crlf4, true) := by
      rw [hdata, crlf_app, hi, if_neg (by omega)]
      unfold cutR
      rw [if_neg (by omega), Int.toNat_natCast, Nat.zero_add, ext_app x crlf4 0 i (by omega)]
      have : (x ++ crlf4).extract (i + 2) (x ++ crlf4).size = x.extract (i + 2) x.size ++ crlf4 := by
        apply row_data_inj
        rw [ByteArray.data_extract, Array.toList_extract, List.extract_eq_take_drop, hdata, hsz, ByteArray.data_append, Array.toList_append, ByteArray.data_extract, Array.toList_extract, List.extract_eq_take_drop]
        rw [List.drop_append_of_le_length (by omega), List.take_of_length_le (by rw [List.length_append, List.length_drop]; show _ + 4 ≤ _; omega), List.take_of_length_le (by rw [List.length_drop]; omega)]
        rfl
      rw [this]
    have hxd : (x.extract (i + 2) x.size).data.toList = x.data.toList.drop (i + 2) := by
      rw [ByteArray.data_extract, Array.toList_extract, List.extract_eq_take_drop]
      exact List.take_of_length_le (by rw [List.length_drop]; omega)
    have hN2 : NoE (13 :: 10 :: (x.extract (i + 2) x.size).data.toList) := by
      rw [hxd]
      obtain ⟨t, ht⟩ := List.isPrefixOf_iff_prefix.1 (index_at x.data.toList [13, 10] i hi)
      have : x.data.toList.drop (i + 2) = t := by rw [← List.drop_drop, ← ht]; rfl
      have hn := noE_drop i _ hN
      rw [← ht] at hn
      rw [this]; exact hn
    obtain ⟨s1, s2⟩ := first_ev (x ++ crlf4) (x.extract 0 i) _ _ (by omega) hline (by rw [ByteArray.size_extract]; omega)
    have hW : wordsX x = splitL (x.extract 0 i) ⟨#[32]⟩ := by unfold wordsX; rw [hsp]; rfl
    have hF : flds x = (splitL (x.extract (i + 2) x.size) ⟨#[13, 10]⟩).map fldP := by unfold flds; rw [hsp]; rfl
    have hD : (splitL x ⟨#[13, 10]⟩).drop 1 = splitL (x.extract (i + 2) x.size) ⟨#[13, 10]⟩ := by rw [hsp]; rfl
    have hE := rhead_end (rdOf ByteArray.empty (splitL (x.extract 0 i) ⟨#[32]⟩) 0) (rdOf ByteArray.empty (splitL (x.extract 0 i) ⟨#[32]⟩) 1) ⟨#[]⟩ false (flds x) (by omega) f2
    obtain ⟨l1, l2⟩ := rhead_loop (rdOf ByteArray.empty (splitL (x.extract 0 i) ⟨#[32]⟩) 0) (rdOf ByteArray.empty (splitL (x.extract 0 i) ⟨#[32]⟩) 1) ⟨#[]⟩ false 4096 (x.extract (i + 2) x.size) [] (by rw [ByteArray.size_extract]; omega) (by omega) hN2 (by rw [List.length_nil]; omega)
    rw [List.nil_append, ← hF] at l2
    unfold rheadOk rheadV
    rw [hD, hW]
    cases hw : wordsR (splitL (x.extract 0 i) ⟨#[32]⟩) with
    | false => exact ⟨fun _ => s1 hw, fun h => by rw [Bool.false_and] at h; cases h⟩
    | true =>
      rw [Bool.true_and]
      cases ha : (splitL (x.extract (i + 2) x.size) ⟨#[13, 10]⟩).all okP with
      | false =>
        obtain ⟨r, e1, e2⟩ := l1 ha
        exact ⟨fun _ => ⟨r, s2 hw _ e1, e2⟩, fun h => by rw [Bool.false_and] at h; cases h⟩
      | true =>
        rw [Bool.true_and]
        cases hr : rfieldsP (flds x) with
        | false =>
          rw [hr, if_neg Bool.false_ne_true] at hE
          exact ⟨fun _ => ⟨_, s2 hw _ (l2 ha _ hE), rfl⟩, fun h => by cases h⟩
        | true =>
          rw [hr, if_pos rfl] at hE
          exact ⟨fun h => (by cases h), fun _ => s2 hw _ (l2 ha _ hE)⟩

/-! ### Parse -/
theorem index_suf (sub : List UInt8) : ∀ x : List UInt8, 0 ≤ Lib.index (x ++ sub) sub
  | [] => by
    rw [List.nil_append]
    cases sub with
    | nil => decide
    | cons b l => rw [index_cons, if_pos (by rw [List.isPrefixOf_iff_prefix]; exact List.prefix_refl _)]; exact Int.le_refl _
  | b :: l => by
    have ih := index_suf sub l
    rw [List.cons_append, index_cons]
    split
    · exact Int.le_refl _
    · rw [if_neg (by rw [beq_iff_eq]; omega)]; omega
theorem end_split (s : ByteArray) (i : Nat) (h : endP s = (i : Int)) (hr : i + 4 ≤ s.size ∧ i + 4 ≤ 4096) : s.extract 0 (i + 4) = s.extract 0 i ++ crlf4 ∧ NoE (s.extract 0 i).data.toList := by
  have hl : s.data.toList.length = s.size := Array.length_toList
  have hidx : Lib.index (preL s) [13, 10, 13, 10] = (i : Int) := by rw [← preL_eq]; exact h
  have hpl := preL_len s
  have hx : (s.extract 0 i).data.toList = (preL s).take i := by
    unfold preL
    rw [ByteArray.data_extract, Array.toList_extract, List.extract_eq_take_drop, List.drop_zero, Nat.sub_zero, List.take_take, Nat.min_eq_left (by omega)]
  obtain ⟨t, ht⟩ := List.isPrefixOf_iff_prefix.1 (index_at (preL s) [13, 10, 13, 10] i hidx)
  have hsplit : preL s = (preL s).take i ++ ([13, 10, 13, 10] ++ t) := by
    rw [ht, List.take_append_drop]
  constructor
  · apply row_data_inj
    rw [ByteArray.data_append, Array.toList_append, hx]
    have : (s.extract 0 (i + 4)).data.toList = (preL s).take (i + 4) := by
      unfold preL
      rw [ByteArray.data_extract, Array.toList_extract, List.extract_eq_take_drop, List.drop_zero, Nat.sub_zero, List.take_take, Nat.min_eq_left (by omega)]
    rw [this]
    conv => lhs; rw [hsplit]
    rw [List.take_append, List.take_of_length_le (by rw [List.length_take]; omega)]
    have : i + 4 - ((preL s).take i).length = 4 := by rw [List.length_take]; omega
    rw [this]
    rfl
  · rw [hx]
    unfold NoE
    have h1 := index_app [13, 10, 13, 10] t ((preL s).take i ++ [13, 10, 13, 10]) (index_suf _ _)
    rw [List.append_assoc, ← hsplit, hidx] at h1
    rw [← h1, List.length_take, Nat.min_eq_left (by omega)]
theorem headP_rel (x : ByteArray) : headP x = if (rheadOk x && (sizeP (flds x)).2.2) = true then (rdOf ByteArray.empty (wordsX x) 0, rdOf ByteArray.empty (wordsX x) 1, flds x, ⟨#[]⟩, closesP (flds x), true) else headZ := by
  rw [headP_eq x _ _ rfl rfl]
  show (if wordsR (wordsX x) = true then if ((splitL x ⟨#[13, 10]⟩).drop 1).all okP = true then if rightP (flds x) = true then (rdOf ByteArray.empty (wordsX x) 0, rdOf ByteArray.empty (wordsX x) 1, flds x, ⟨#[]⟩, closesP (flds x), true) else headZ else headZ else headZ) = _
  unfold rheadOk
  rw [right_rel]
  cases wordsR (wordsX x) <;> cases ((splitL x ⟨#[13, 10]⟩).drop 1).all okP <;> cases rfieldsP (flds x) <;> cases (sizeP (flds x)).2.2 <;> rfl
theorem rparse_ev (s : ByteArray) (hs : s.size ≤ 140737488351232) : Ev (fun k => atriumref17_Parse.f k s) (parseP s) := by
  refine rend_ev s hs _ ?_
  unfold parseP
  by_cases h0 : endP s < 0
  · rw [if_pos h0, if_pos h0]
    refine Ev.step (fun k => by simp only [atriumref17_Parse.j2]; exact rfl) (evIfPos (show (-1 : Int) < 0 by decide) ?_)
    by_cases h1 : 4096 ≤ s.size
    · rw [if_pos h1, decide_eq_true (by omega)]
      exact Ev.step (fun k => by simp only [atriumref17_Parse.j3]; exact rfl) (evIfPos (show true = true from rfl) (Ev.now _))
    · rw [if_neg h1, decide_eq_false (by omega)]
      exact Ev.step (fun k => by simp only [atriumref17_Parse.j3]; exact rfl) (evIfNeg (by decide) (evIfPos (show (-1 : Int) < 0 by decide) (Ev.now _)))
  · rw [if_neg h0, if_neg h0]
    obtain ⟨r1, r2, r3⟩ := endP_room s h0
    obtain ⟨i, hi⟩ : ∃ i : Nat, (endP s).toNat = i := ⟨_, rfl⟩
    rw [hi] at r1 r2 r3 ⊢
    rw [r3]
    obtain ⟨x1, x2⟩ := end_split s i r3 ⟨r1, r2⟩
    have e4 : (i : Int) + 4 = ((i + 4 : Nat) : Int) := by omega
    rw [e4]
    have hxs : (s.extract 0 i).size = i := by rw [ByteArray.size_extract]; omega
    obtain ⟨g1, g2⟩ := rhead_ev (s.extract 0 i) (by omega) x2
    obtain ⟨f1, f2⟩ := flds_small (s.extract 0 i) (by omega)
    have hP := headP_rel (s.extract 0 i)
    rw [← x1] at g1 g2
    generalize s.extract 0 i = x at *
    refine Ev.step (fun k => by simp only [atriumref17_Parse.j2]; exact rfl) (evIfNeg (by omega) (Ev.step (fun k => by simp only [atriumref17_Parse.j3]; exact rfl) (evIfNeg (by decide) (evIfNeg (by omega) (evIfPos (by omega) (evIfPos (by omega) ?_))))))
    rw [Int.toNat_natCast]
    cases hk : rheadOk x with
    | false =>
      obtain ⟨r, q1, q2⟩ := g1 hk
      rw [hk, Bool.false_and, if_neg Bool.false_ne_true] at hP
      rw [hP]
      refine Ev.bind q1 (evIfNeg (by omega) ?_)
      rw [q2]
      exact Ev.now _
    | true =>
      have q1 := g2 hk
      rw [hk, Bool.true_and] at hP
      have hle : (allP (flds x) lenN).length ≤ 1 := by
        unfold rheadOk at hk
        rw [Bool.and_eq_true, Bool.and_eq_true] at hk
        have := hk.2.2
        unfold rfieldsP at this
        rw [Bool.and_eq_true, Bool.and_eq_true, Bool.and_eq_true] at this
        exact of_decide_eq_true this.2.2.1
      have hb := sizeP_bound (flds x)
      refine Ev.bind q1 (evIfPos rfl (Ev.bind (rlength_ev (rdOf ByteArray.empty (wordsX x) 0) (rdOf ByteArray.empty (wordsX x) 1) ⟨#[]⟩ (closesP (flds x)) (flds x) (by omega) f2) ?_))
      rw [size_rel _ hle]
      unfold rheadV
      cases hz : (sizeP (flds x)).2.2 with
      | false =>
        rw [hz, if_neg Bool.false_ne_true] at hP
        rw [hP, if_neg Bool.false_ne_true]
        exact evIfNeg (by decide) (Ev.now _)
      | true =>
        rw [hz, if_pos rfl] at hP
        rw [hP, if_pos rfl]
        unfold bodyP
        dsimp only
        rw [if_pos rfl]
        generalize sizeP (flds x) = z at *
        cases hbig : (z.2.1 || decide (z.1 > 8192)) with
        | true =>
          rw [if_pos rfl, if_pos rfl]
          exact evIfNeg (by decide) (Ev.now _)
        | false =>
          rw [if_neg Bool.false_ne_true, if_neg Bool.false_ne_true]
          have hz8 : z.1 ≤ 8192 := by
            rw [Bool.or_eq_false_iff] at hbig
            have := of_decide_eq_false hbig.2
            omega
          have e3 : wrap64 (((i + 4 : Nat) : Int) + z.1) = ((i + 4 : Nat) : Int) + z.1 := wrap64_id (by omega) (by omega)
          refine evIfPos rfl ?_
          dsimp only
          rw [e3]
          by_cases hlt : (s.size : Int) - (i + 4 : Nat) < z.1
          · rw [if_pos hlt]
            exact evIfPos (by omega) (Ev.now _)
          · rw [if_neg hlt]
            refine evIfNeg (by omega) (evIfPos (by omega) (evIfPos (by omega) ?_))
            have e5 : (((i + 4 : Nat) : Int) + z.1).toNat = i + 4 + z.1.toNat := by omega
            rw [e5]
            exact Ev.now _

/-! ### The law -/
theorem parse_small (s : ByteArray) : smallF (parseP s).2.2.1 := by
  have hz : smallF ([] : List S50) := fun f hf => absurd hf (by simp)
  unfold parseP
  by_cases h0 : endP s < 0
  · rw [if_pos h0]; split <;> exact hz
  · rw [if_neg h0]
    obtain ⟨r1, r2, r3⟩ := endP_room s h0
    have q := (head_small (s.extract 0 (endP s).toNat) (by rw [ByteArray.size_extract]; omega)).2
    generalize headP (s.extract 0 (endP s).toNat) = H at *
    unfold bodyP
    split
    · split
      · exact hz
      · split
        · exact hz
        · exact q
    · exact hz
theorem same_texts (l : List ByteArray) (hl : l.length < 9223372036854775807) (d : Nat) : ∀ i, i + d = l.length → Ev (fun k => atriumlaw17_sameTexts.l0 k l l (i : Int)) true := by
  induction d with
  | zero =>
    intro i hi
    exact Ev.step (fun k => by simp only [atriumlaw17_sameTexts.l0]; exact rfl) (evIfNeg (by omega) (Ev.now _))
  | succ d ih =>
    intro i hi
    refine Ev.step (fun k => by simp only [atriumlaw17_sameTexts.l0]; exact rfl) (evIfPos (by omega) (evIfPos (by omega) (evIfPos (by omega) (evIfPos (show (rdOf ByteArray.empty l (i : Int)).toList = (rdOf ByteArray.empty l (i : Int)).toList from rfl) ?_))))
    rw [wrap64_succ (by omega)]
    exact ih (i + 1) (by omega)
theorem sameTexts_ev (l : List ByteArray) (hl : l.length < 9223372036854775807) : Ev (fun k => atriumlaw17_sameTexts.f k l l) true :=
  evIfPos rfl (same_texts l hl l.length 0 (by omega))
theorem parses_j0 (m t b : ByteArray) (c : Bool) (l : List S50) (hl : l.length < 8796093022208) (hf : smallF l) (nm : ByteArray) (hn : nm.size ≤ 140737488351232) : Ev (fun k => atriumlaw17_HttpParses.j0 k nm false m t l b c m t l b c) true := by
  have ha := all_ev m t b c l nm (by omega) hl (fun f h => (hf f h).1)
  have hr := rall_ev m t b c l nm (by omega) hl (fun f h => (hf f h).1)
  have hs : Ev (fun k => atriumlaw17_sameTexts.f k (allP l nm) (allP l nm)) true := sameTexts_ev _ (by have := allP_len l nm; omega)
  refine Ev.step (fun k => by simp only [atriumlaw17_HttpParses.j0]; exact rfl) (evIfNeg (by decide) ?_)
  obtain ⟨g, hg1, hg2⟩ : ∃ g : ByteArray × Bool, Ev (fun k => http_Get.f k m t l b c nm) g ∧ Ev (fun k => atriumref17_Get.f k m t l b c nm) g := by
    by_cases h0 : (allP l nm).length = 0
    · exact ⟨_, Ev.bind ha (evIfPos (by omega) (Ev.now _)), Ev.bind hr (evIfPos (by omega) (Ev.now _))⟩
    · exact ⟨_, Ev.bind ha (evIfNeg (by omega) (evIfPos (by omega) (Ev.now _))), Ev.bind hr (evIfNeg (by omega) (evIfPos (by omega) (Ev.now _)))⟩
  exact Ev.bind hg1 (Ev.bind hg2 (evIfPos rfl (evIfPos (by simp) (Ev.bind ha (Ev.bind hr (Ev.bind hs (Ev.now _)))))))
theorem HttpParses : atriumlaw17_HttpParses.Pure := by
  intro s nm hs hn
  have h : Ev (fun k => atriumlaw17_HttpParses.f k s nm) true := by
    have h1 := parse_ev s (by omega)
    have h2 := rparse_ev s hs
    have h3 := parse_len s
    have h4 := parse_small s
    unfold atriumlaw17_HttpParses.f
    generalize parseP s = P at *
    refine Ev.bind h1 (Ev.bind h2 (Ev.bind lives_ev (evIfPos rfl (Ev.bind (same_ev _ _ _ _ _ h3) (evIfPos rfl (evIfPos rfl ?_))))))
    have e : (P.2.2.2.2.2.2 != P.2.2.2.2.2.2) = false := by simp
    rw [e]
    exact parses_j0 _ _ _ _ _ h3 h4 nm hn
  exact h.rounds
end Go.Proofs.YtckbcnmcnhahhaaDoor.Pure
