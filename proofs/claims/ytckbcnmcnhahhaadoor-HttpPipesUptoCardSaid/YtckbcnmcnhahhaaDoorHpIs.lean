/- HttpPrints: what is printed is parsed again, whatever stands behind it; the law. -/
import Derived.Test.YtckbcnmcnhahhaaDoorHpIr
namespace Go.Proofs.YtckbcnmcnhahhaaDoor.Pure
open Go Go.RowKit Go.Proofs.YtckbcnmcnhahhaaDoor Go.Proofs.YtckbcnmcnhahhaaDoor.PI Go.Proofs.YtckbcnmcnhahhaaDoorW.PrintWords Go.Proofs.YtckbcnmcnhahhaaDoorW.PrintLast
set_option linter.unusedVariables false
set_option linter.unusedSimpArgs false

/-! ### First places -/
theorem np (c b : UInt8) (sub l : List UInt8) (h : b ≠ c) : ¬ (c :: sub).isPrefixOf (b :: l) = true := by
  intro hp
  simp [List.isPrefixOf] at hp
  exact h hp.1.symm
theorem ix_none (c : UInt8) (sub : List UInt8) : ∀ a : List UInt8, (∀ x ∈ a, x ≠ c) → Lib.index a (c :: sub) = -1
  | [], _ => rfl
  | b :: a, h => by
    rw [index_cons, if_neg (np c b sub a (h b (by simp))), ix_none c sub a (fun x hx => h x (List.mem_cons_of_mem _ hx))]; rfl
theorem ix_skip (c : UInt8) (sub y : List UInt8) (hy : 0 ≤ Lib.index y (c :: sub)) : ∀ a : List UInt8, (∀ x ∈ a, x ≠ c) → Lib.index (a ++ y) (c :: sub) = (a.length : Int) + Lib.index y (c :: sub)
  | [], _ => by simp
  | b :: a, h => by
    have ih := ix_skip c sub y hy a (fun x hx => h x (List.mem_cons_of_mem _ hx))
    rw [List.cons_append, index_cons, if_neg (np c b sub _ (h b (by simp))), ih, if_neg (by rw [beq_iff_eq]; omega), List.length_cons]
    omega
theorem ix_one (c : UInt8) (sub y : List UInt8) : ∀ a : List UInt8, (∀ x ∈ a, x ≠ c) → Lib.index (a ++ (c :: sub ++ y)) (c :: sub) = (a.length : Int) := by
  intro a h
  have h0 : Lib.index (c :: sub ++ y) (c :: sub) = 0 := by
    rw [List.cons_append, index_cons, if_pos]
    rw [List.isPrefixOf_iff_prefix, ← List.cons_append]
    exact List.prefix_append _ _
  rw [ix_skip c sub _ (by omega) a h, h0]; omega
theorem ext_l (l : List UInt8) (i j : Nat) : (⟨l.toArray⟩ : ByteArray).extract i j = ⟨((l.take j).drop i).toArray⟩ := by
  apply row_data_inj
  rw [ByteArray.data_extract, Array.toList_extract, List.extract_eq_take_drop, toArr, toArr, List.drop_take]

/-! ### Lines that are joined -/
def jn (a : List UInt8) : List (List UInt8) → List UInt8
  | [] => a
  | b :: r => a ++ (13 :: 10 :: jn b r)
theorem jn_flat : ∀ (r : List (List UInt8)) (a : List UInt8), a ++ [13, 10] ++ r.flatMap (fun x => x ++ [13, 10]) = jn a r ++ [13, 10]
  | [], a => by simp [jn]
  | b :: r, a => by
    have ih := jn_flat r b
    rw [List.flatMap_cons, ih]
    simp [jn]
theorem jn_head (r : List (List UInt8)) (a : List UInt8) (h : a ≠ []) : ∃ c l, a = c :: l ∧ ∃ y, jn a r = c :: y := by
  cases a with
  | nil => exact absurd rfl h
  | cons c l =>
    refine ⟨c, l, rfl, ?_⟩
    cases r with
    | nil => exact ⟨_, rfl⟩
    | cons b r => exact ⟨_, rfl⟩
theorem jn_end : ∀ (r : List (List UInt8)) (a : List UInt8), (∀ l ∈ a :: r, ∀ x ∈ l, x ≠ 13) → (∀ l ∈ r, l ≠ []) → Lib.index (jn a r ++ [13, 10, 13, 10]) [13, 10, 13, 10] = ((jn a r).length : Int)
  | [], a, h, _ => by
    have := ix_one 13 [10, 13, 10] [] a (h a (by simp))
    rwa [List.append_nil] at this
  | b :: r, a, h, h2 => by
    have ih := jn_end r b (fun l hl => h l (List.mem_cons_of_mem _ hl)) (fun l hl => h2 l (List.mem_cons_of_mem _ hl))
    obtain ⟨c, t, hb, y, hy⟩ := jn_head r b (h2 b (by simp))
    have hc : c ≠ 13 := h b (by simp) c (by rw [hb]; simp)
    show Lib.index (a ++ (13 :: 10 :: jn b r) ++ [13, 10, 13, 10]) [13, 10, 13, 10] = _
    have e : Lib.index (13 :: 10 :: jn b r ++ [13, 10, 13, 10]) [13, 10, 13, 10] = ((jn b r).length : Int) + 2 := by
      have i2 : Lib.index (10 :: (jn b r ++ [13, 10, 13, 10])) [13, 10, 13, 10] = ((jn b r).length : Int) + 1 := by
        rw [index_cons, if_neg (np 13 10 _ _ (by decide)), ih, if_neg (by rw [beq_iff_eq]; omega)]
      have i3 : ¬ ([13, 10, 13, 10] : List UInt8).isPrefixOf (13 :: 10 :: (jn b r ++ [13, 10, 13, 10])) = true := by
        rw [hy]
        intro hp
        simp [List.isPrefixOf] at hp
        exact hc hp.1.symm
      show Lib.index (13 :: 10 :: (jn b r ++ [13, 10, 13, 10])) [13, 10, 13, 10] = _
      rw [index_cons, if_neg i3, i2, if_neg (by rw [beq_iff_eq]; omega)]
      omega
    rw [List.append_assoc, ix_skip 13 [10, 13, 10] _ (by show 0 ≤ Lib.index (13 :: 10 :: jn b r ++ [13, 10, 13, 10]) _; rw [e]; omega) a (h a (by simp))]
    show (a.length : Int) + Lib.index (13 :: 10 :: jn b r ++ [13, 10, 13, 10]) [13, 10, 13, 10] = ((a ++ (13 :: 10 :: jn b r)).length : Int)
    rw [e, List.length_append, List.length_cons, List.length_cons]
    omega
theorem split_jn : ∀ (r : List (List UInt8)) (a : List UInt8), (∀ l ∈ a :: r, ∀ x ∈ l, x ≠ 13) → splitL ⟨(jn a r).toArray⟩ ⟨#[13, 10]⟩ = (a :: r).map fun l => (⟨l.toArray⟩ : ByteArray)
  | [], a, h => splitL_miss _ _ (show Lib.index ((⟨a.toArray⟩ : ByteArray).data.toList) [13, 10] = -1 by rw [toArr]; exact ix_none 13 [10] a (h a (by simp)))
  | b :: r, a, h => by
    have ih := split_jn r b (fun l hl => h l (List.mem_cons_of_mem _ hl))
    have hi : Lib.index ((⟨(jn a (b :: r)).toArray⟩ : ByteArray).data.toList) [13, 10] = (a.length : Int) := by
      rw [toArr]
      exact ix_one 13 [10] (jn b r) a (h a (by simp))
    rw [splitL_hit _ ⟨#[13, 10]⟩ (by decide) a.length hi, ext_l, ext_l]
    have e1 : ((jn a (b :: r)).take a.length).drop 0 = a := by
      show ((a ++ _).take a.length).drop 0 = a
      rw [List.take_left, List.drop_zero]
    have e2 : ((jn a (b :: r)).take (⟨(jn a (b :: r)).toArray⟩ : ByteArray).size).drop (a.length + ByteArray.size ⟨#[13, 10]⟩) = jn b r := by
      rw [List.take_of_length_le (by show _ ≤ ((jn a (b :: r)).toArray).size; rw [List.size_toArray]; exact Nat.le_refl _)]
      show (a ++ (13 :: 10 :: jn b r)).drop (a.length + 2) = _
      rw [← List.drop_drop, List.drop_left]; rfl
    rw [e1, e2, ih]; rfl

/-! ### The lines of a request -/
def line0 (m t : ByteArray) : List UInt8 := m.data.toList ++ (32 :: (t.data.toList ++ (32 :: [72, 84, 84, 80, 47, 49, 46, 49])))
def lineF (f : S50) : List UInt8 := f.f0.data.toList ++ (58 :: 32 :: f.f1.data.toList)
theorem upB_jn (m t : ByteArray) (l : List S50) : upB m t l = jn (line0 m t) (l.map lineF) ++ [13, 10] := by
  rw [← jn_flat]
  unfold upB
  have e1 : headB m t = line0 m t ++ [13, 10] := by simp [headB, line0]
  have e2 : l.flatMap fieldB = (l.map lineF).flatMap (fun x => x ++ [13, 10]) := by
    rw [List.flatMap_map]
    congr 1
    funext f
    simp [fieldB, lineF]
  rw [e1, e2]
theorem up_ne (c : UInt8) (h : upC c = true) : c ≠ 13 ∧ c ≠ 32 := by
  have := byte_all (fun c => !upC c || (c != 13 && c != 32)) (by decide +kernel) c
  simpa [h] using this
theorem vis_ne (c : UInt8) (h : visC c = true) : c ≠ 13 ∧ c ≠ 32 := by
  have := byte_all (fun c => !visC c || (c != 13 && c != 32)) (by decide +kernel) c
  simpa [h] using this
theorem tok_ne (c : UInt8) (h : tokC c = true) : c ≠ 13 ∧ c ≠ 58 := by
  have := byte_all (fun c => !tokC c || (c != 13 && c != 58)) (by decide +kernel) c
  simpa [h] using this
theorem val_ne (c : UInt8) (h : valC c = true) : c ≠ 13 := by
  have := byte_all (fun c => !valC c || (c != 13)) (by decide +kernel) c
  simpa [h] using this
theorem ba_eta (s : ByteArray) : (⟨s.data.toList.toArray⟩ : ByteArray) = s := row_data_inj (toArr _)
theorem words0 (m t : ByteArray) (hm : ∀ c ∈ m.data.toList, c ≠ 32) (ht : ∀ c ∈ t.data.toList, c ≠ 32) : splitL ⟨(line0 m t).toArray⟩ ⟨#[32]⟩ = [m, t, ⟨#[72, 84, 84, 80, 47, 49, 46, 49]⟩] := by
  have step : ∀ (a y : List UInt8), (∀ c ∈ a, c ≠ 32) → splitL ⟨(a ++ (32 :: y)).toArray⟩ ⟨#[32]⟩ = ⟨a.toArray⟩ :: splitL ⟨y.toArray⟩ ⟨#[32]⟩ := by
    intro a y ha
    have hi : Lib.index ((⟨(a ++ (32 :: y)).toArray⟩ : ByteArray).data.toList) [32] = (a.length : Int) := by
      rw [toArr]
      exact ix_one 32 [] y a ha
    rw [splitL_hit _ ⟨#[32]⟩ (by decide) a.length hi, ext_l, ext_l]
    have e1 : ((a ++ (32 :: y)).take a.length).drop 0 = a := by rw [List.take_left, List.drop_zero]
    have e2 : ((a ++ (32 :: y)).take (⟨(a ++ (32 :: y)).toArray⟩ : ByteArray).size).drop (a.length + ByteArray.size ⟨#[32]⟩) = y := by
      rw [List.take_of_length_le (by show _ ≤ ((a ++ (32 :: y)).toArray).size; rw [List.size_toArray]; exact Nat.le_refl _)]
      show (a ++ (32 :: y)).drop (a.length + 1) = _
      rw [← List.drop_drop, List.drop_left]; rfl
    rw [e1, e2]
  unfold line0
  rw [step _ _ hm, step _ _ ht, ba_eta, ba_eta]
  rw [splitL_miss ⟨([72, 84, 84, 80, 47, 49, 46, 49] : List UInt8).toArray⟩ ⟨#[32]⟩ (by decide)]
theorem blank_skip (v : List UInt8) : Lib.trimS (32 :: v) [32, 9] = Lib.trimS v [32, 9] := by
  have h1 : ∀ l : List UInt8, Lib.trimS l [32, 9] = ((l.dropWhile blank).reverse.dropWhile blank).reverse := fun l => trims_comm blank l
  rw [h1, h1]
  rfl
theorem field_back (f : S50) (h : fOk f = true) : okP ⟨(lineF f).toArray⟩ = true ∧ fldP ⟨(lineF f).toArray⟩ = f := by
  unfold fOk at h
  rw [Bool.and_eq_true, Bool.and_eq_true] at h
  obtain ⟨ht, hv, htr⟩ := h
  have hnc : ∀ c ∈ f.f0.data.toList, c ≠ 58 := by
    unfold tokB at ht
    rw [Bool.and_eq_true] at ht
    exact fun c hc => (tok_ne c (List.all_eq_true.1 ht.1 c hc)).2
  have hcut : Lib.cut (⟨(lineF f).toArray⟩ : ByteArray).data.toList [58] = (f.f0.data.toList, 32 :: f.f1.data.toList, true) := by
    rw [toArr]
    have hi : Lib.index (lineF f) [58] = (f.f0.data.toList.length : Int) := ix_one 58 [] (32 :: f.f1.data.toList) _ hnc
    unfold Lib.cut
    rw [hi, if_pos (by omega), Int.toNat_natCast]
    unfold lineF
    rw [List.take_left]
    show (_, (f.f0.data.toList ++ (58 :: 32 :: f.f1.data.toList)).drop (f.f0.data.toList.length + 1), true) = _
    rw [← List.drop_drop, List.drop_left]
    rfl
  have hname : nameP ⟨(lineF f).toArray⟩ = f.f0 := by unfold nameP; rw [hcut, ba_eta]
  have hval : valueP ⟨(lineF f).toArray⟩ = f.f1 := by
    unfold valueP
    rw [hcut]
    show (⟨(Lib.trimS (32 :: f.f1.data.toList) [32, 9]).toArray⟩ : ByteArray) = _
    rw [blank_skip]
    have := beq_iff_eq.1 htr
    rw [ByteArray.toList_eq, ByteArray.toList_eq] at this
    exact row_data_inj this
  constructor
  · unfold okP
    rw [hname, hval, hcut, ht, hv]; rfl
  · unfold fldP
    rw [hname, hval]

/-! ### What is printed is parsed again -/
theorem parse_back (m t b bh : ByteArray) (c : Bool) (l : List S50) (h : checkP m t b c l = 0) :
    parseP (⟨(bytesL m t l b).toArray⟩ ++ bh) = (m, t, l, b, c, ((⟨(bytesL m t l b).toArray⟩ : ByteArray).size : Int), 0) := by
  unfold checkP at h
  by_cases h0 : 8192 < b.size
  · rw [if_pos h0] at h; exact absurd h (by decide)
  rw [if_neg h0] at h
  have hk : (frontOk m t c l && (l.all fOk && sizeOk b l)) = true := by
    apply Decidable.byContradiction
    intro hk
    rw [if_neg hk] at h
    exact absurd h (by decide)
  rw [if_pos hk] at h
  by_cases hw : 4096 < (upB m t l).length + 2
  · rw [if_pos hw] at h; exact absurd h (by decide)
  clear h
  rw [Bool.and_eq_true, Bool.and_eq_true] at hk
  obtain ⟨hfr, hall, hsz⟩ := hk
  unfold frontOk at hfr
  rw [Bool.and_eq_true, Bool.and_eq_true] at hfr
  obtain ⟨hline, hrf, hcl⟩ := hfr
  unfold sizeOk at hsz
  rw [Bool.and_eq_true, Bool.and_eq_true] at hsz
  obtain ⟨hz1, hz2, hz3⟩ := hsz
  have hls := hline
  rw [line_split, Bool.and_eq_true] at hls
  have hls1 := Bool.and_eq_true_iff.1 hls.1
  have hls2 := Bool.and_eq_true_iff.1 hls.2
  have hmu : ∀ x ∈ m.data.toList, x ≠ 13 ∧ x ≠ 32 := fun x hx => up_ne x (List.all_eq_true.1 hls1.1 x hx)
  have htu : ∀ x ∈ t.data.toList, x ≠ 13 ∧ x ≠ 32 := fun x hx => vis_ne x (List.all_eq_true.1 hls2.1 x hx)
  -- the lines
  have hn13 : ∀ a ∈ line0 m t :: l.map lineF, ∀ x ∈ a, x ≠ 13 := by
    intro a ha x hx
    rcases List.mem_cons.1 ha with rfl | ha
    · unfold line0 at hx
      rcases List.mem_append.1 hx with hx | hx
      · exact (hmu x hx).1
      · rcases List.mem_cons.1 hx with rfl | hx
        · decide
        · rcases List.mem_append.1 hx with hx | hx
          · exact (htu x hx).1
          · exact (by decide : ∀ x ∈ ([32, 72, 84, 84, 80, 47, 49, 46, 49] : List UInt8), x ≠ 13) x hx
    · obtain ⟨f, hf, rfl⟩ := List.mem_map.1 ha
      have hok := List.all_eq_true.1 hall f hf
      unfold fOk at hok
      rw [Bool.and_eq_true, Bool.and_eq_true] at hok
      unfold tokB at hok
      rw [Bool.and_eq_true] at hok
      unfold lineF at hx
      rcases List.mem_append.1 hx with hx | hx
      · exact (tok_ne x (List.all_eq_true.1 hok.1.1 x hx)).1
      · rcases List.mem_cons.1 hx with rfl | hx
        · decide
        · rcases List.mem_cons.1 hx with rfl | hx
          · decide
          · exact val_ne x (List.all_eq_true.1 hok.2.1 x hx)
  have hne : ∀ a ∈ l.map lineF, a ≠ [] := by
    intro a ha
    obtain ⟨f, hf, rfl⟩ := List.mem_map.1 ha
    unfold lineF
    simp
  have hup := upB_jn m t l
  have hul : (upB m t l).length = (jn (line0 m t) (l.map lineF)).length + 2 := by rw [hup, List.length_append]; rfl
  have hend := jn_end (l.map lineF) (line0 m t) hn13 hne
  have hspl := split_jn (l.map lineF) (line0 m t) hn13
  have hbytes : bytesL m t l b = jn (line0 m t) (l.map lineF) ++ ([13, 10, 13, 10] ++ b.data.toList) := by
    unfold bytesL
    rw [hup]; simp
  have hbl := bytesL_len m t b l
  have hb2 : b.data.toList.length = b.size := Array.length_toList
  generalize hX : jn (line0 m t) (l.map lineF) = X at *
  have hs : ((⟨(bytesL m t l b).toArray⟩ : ByteArray) ++ bh).size = (bytesL m t l b).length + bh.size := by
    rw [ByteArray.size_append]
    show (bytesL m t l b).toArray.size + _ = _
    rw [List.size_toArray]
  have hd : ((⟨(bytesL m t l b).toArray⟩ : ByteArray) ++ bh).data.toList = X ++ [13, 10, 13, 10] ++ (b.data.toList ++ bh.data.toList) := by
    rw [str_app, toArr, hbytes]; simp
  have hE : endP ((⟨(bytesL m t l b).toArray⟩ : ByteArray) ++ bh) = (X.length : Int) := by
    have e : endP ((⟨(bytesL m t l b).toArray⟩ : ByteArray) ++ bh) = Lib.index ((((⟨(bytesL m t l b).toArray⟩ : ByteArray) ++ bh).extract 0 (min ((⟨(bytesL m t l b).toArray⟩ : ByteArray) ++ bh).size 4096)).data.toList) [13, 10, 13, 10] := rfl
    rw [e, ByteArray.data_extract, Array.toList_extract, List.extract_eq_take_drop, List.drop_zero, Nat.sub_zero, hd, List.take_append,
      List.take_of_length_le (by rw [List.length_append]; show _ + 4 ≤ _; omega)]
    rw [index_app _ _ _ (by rw [hend]; omega), hend]
  have hsplit : ((⟨(bytesL m t l b).toArray⟩ : ByteArray) ++ bh).extract 0 X.length = ⟨X.toArray⟩ := by
    apply row_data_inj
    rw [ByteArray.data_extract, Array.toList_extract, List.extract_eq_take_drop, List.drop_zero, Nat.sub_zero, hd, toArr, List.append_assoc, List.take_left]
  have hH : headP ⟨X.toArray⟩ = (m, t, l, ⟨#[]⟩, c, true) := by
    rw [headP_eq _ _ _ hspl (show splitL ⟨(line0 m t).toArray⟩ ⟨#[32]⟩ = _ from words0 m t (fun x hx => (hmu x hx).2) (fun x hx => (htu x hx).2))]
    have w1 : wordsR [m, t, ⟨#[72, 84, 84, 80, 47, 49, 46, 49]⟩] = true := by
      show (decide (3 = 3) && ((⟨#[72, 84, 84, 80, 47, 49, 46, 49]⟩ : ByteArray).toList == verL && lineOk m t)) = true
      rw [hline, show (⟨#[72, 84, 84, 80, 47, 49, 46, 49]⟩ : ByteArray).toList = verL from by decide +kernel]
      rfl
    have w2 : ((line0 m t :: l.map lineF).map (fun a => (⟨a.toArray⟩ : ByteArray))).drop 1 = l.map (fun f => ⟨(lineF f).toArray⟩) := by
      rw [List.map_cons, List.drop_one, List.tail_cons, List.map_map]; rfl
    have w3 : (l.map (fun f => (⟨(lineF f).toArray⟩ : ByteArray))).all okP = true := by
      rw [List.all_map, List.all_eq_true]
      exact fun f hf => (field_back f (List.all_eq_true.1 hall f hf)).1
    have w4 : (l.map (fun f => (⟨(lineF f).toArray⟩ : ByteArray))).map fldP = l := by
      rw [List.map_map]
      conv => rhs; rw [← List.map_id l]
      exact List.map_congr_left fun f hf => (field_back f (List.all_eq_true.1 hall f hf)).2
    have w5 : rightP l = true := by rw [right_rel, hz1, hrf]; rfl
    rw [if_pos w1, w2, if_pos w3, w4, if_pos w5, ← beq_iff_eq.1 hcl]
    rfl
  unfold parseP
  rw [hE, if_neg (by omega), Int.toNat_natCast, hsplit, hH]
  unfold bodyP
  rw [if_pos rfl]
  dsimp only
  have hz2' : (sizeP l).2.1 = false := by simpa using hz2
  have hz3' : (sizeP l).1 = (b.size : Int) := beq_iff_eq.1 hz3
  have hbs : (⟨(bytesL m t l b).toArray⟩ : ByteArray).size = (bytesL m t l b).length := List.size_toArray
  rw [hz2', hz3', hs, hbs, hbl, hul, if_neg (by rw [Bool.false_or]; simp; omega), if_neg (by omega), Int.toNat_natCast]
  have hbx : ((⟨(bytesL m t l b).toArray⟩ : ByteArray) ++ bh).extract (X.length + 4) (X.length + 4 + b.size) = b := by
    apply row_data_inj
    rw [ByteArray.data_extract, Array.toList_extract, List.extract_eq_take_drop, hd, List.append_assoc, ← List.drop_drop, List.drop_left]
    show List.take (X.length + 4 + b.size - (X.length + 4)) (b.data.toList ++ bh.data.toList) = _
    rw [show X.length + 4 + b.size - (X.length + 4) = b.data.toList.length by omega, List.take_left]
  rw [hbx]
  have : ((X.length + 4 : Nat) : Int) + (b.size : Int) = ((X.length + 2 + 2 + b.size : Nat) : Int) := by omega
  rw [this]
end Go.Proofs.YtckbcnmcnhahhaaDoor.Pure
