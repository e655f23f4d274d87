/- The plain law of HttpComes: Parse in closed form; it tells the same of more bytes, once it tells anything but that more must come. -/
import Derived.Test.YtckbcnmcnhahhaaDoorPHx7
namespace Go.Proofs.YtckbcnmcnhahhaaDoor.Pure
open Go Go.RowKit Go.Proofs.YtckbcnmcnhahhaaDoor Go.Proofs.YtckbcnmcnhahhaaDoor.PH Go.Proofs.YtckbcnmcnhahhaaDoorW.PrintWords Go.Proofs.YtckbcnmcnhahhaaDoorW.PrintLast
set_option linter.unusedVariables false
set_option linter.unusedSimpArgs false

/-! ### Index -/
theorem index_room : ∀ (l sub : List UInt8), 0 ≤ Lib.index l sub → Lib.index l sub + sub.length ≤ l.length
  | [], sub, h => by
    unfold Lib.index at h ⊢
    split
    · rename_i he
      rw [List.isEmpty_iff.1 he]; simp
    · rename_i he
      rw [if_neg he] at h; omega
  | b :: l, sub, h => by
    unfold Lib.index at h ⊢
    split
    · rename_i hp
      have := (List.isPrefixOf_iff_prefix.1 hp).length_le
      omega
    · rename_i hp
      rw [if_neg hp] at h
      split
      · rename_i hq
        rw [if_pos hq] at h; omega
      · rename_i hq
        rw [if_neg hq] at h
        have hne : Lib.index l sub ≠ -1 := fun e => hq (by rw [e]; rfl)
        have := Lib.index_ge l sub
        have := index_room l sub (by omega)
        rw [List.length_cons]; omega
theorem index_app (sub : List UInt8) (m : List UInt8) : ∀ (l : List UInt8), 0 ≤ Lib.index l sub → Lib.index (l ++ m) sub = Lib.index l sub
  | [], h => by
    unfold Lib.index at h
    split at h
    · rename_i he
      rw [List.isEmpty_iff.1 he]
      cases m with
      | nil => rfl
      | cons => rfl
    · omega
  | b :: l, h => by
    have hr := index_room (b :: l) sub h
    rw [List.cons_append]
    unfold Lib.index at h hr ⊢
    by_cases hp : sub.isPrefixOf (b :: l) = true
    · rw [if_pos hp, if_pos]
      exact List.isPrefixOf_iff_prefix.2 ((List.isPrefixOf_iff_prefix.1 hp).trans (by rw [← List.cons_append]; exact List.prefix_append _ _))
    · rw [if_neg hp] at h hr ⊢
      by_cases hq : (Lib.index l sub == -1) = true
      · rw [if_pos hq] at h; omega
      · rw [if_neg hq] at h hr ⊢
        have hne : Lib.index l sub ≠ -1 := fun e => hq (by rw [e]; rfl)
        have hge := Lib.index_ge l sub
        have ih := index_app sub m l (by omega)
        have hnp : ¬ sub.isPrefixOf (b :: (l ++ m)) = true := fun hx => hp (by
          rw [← List.cons_append] at hx
          refine List.isPrefixOf_iff_prefix.2 (List.prefix_of_prefix_length_le (List.isPrefixOf_iff_prefix.1 hx) (List.prefix_append _ _) ?_)
          omega)
        rw [if_neg hnp, ih, if_neg hq]

/-! ### Parse -/
abbrev PR := ByteArray × ByteArray × List S50 × ByteArray × Bool × Int × Int
def crlf4 : ByteArray := ⟨#[13, 10, 13, 10]⟩
def endP (s : ByteArray) : Int := Lib.index (s.extract 0 (min s.size 4096)).data.toList crlf4.data.toList
def parseZ (e : Int) : PR := (⟨#[]⟩, ⟨#[]⟩, [], ⟨#[]⟩, false, 0, e)
def bodyP (s : ByteArray) (i : Nat) (h : ByteArray × ByteArray × List S50 × ByteArray × Bool × Bool) (z : Int × Bool × Bool) : PR :=
  if h.2.2.2.2.2 = true then
    if (z.2.1 || decide (z.1 > 8192)) = true then parseZ 171
    else if (s.size : Int) - (i + 4 : Nat) < z.1 then parseZ 4
    else (h.1, h.2.1, h.2.2.1, s.extract (i + 4) (i + 4 + z.1.toNat), h.2.2.2.2.1, ((i + 4 : Nat) : Int) + z.1, 0)
  else parseZ 170
def parseP (s : ByteArray) : PR :=
  if endP s < 0 then (if 4096 ≤ s.size then parseZ 172 else parseZ 4)
  else bodyP s (endP s).toNat (headP (s.extract 0 (endP s).toNat)) (sizeP (headP (s.extract 0 (endP s).toNat)).2.2.1)
theorem sizeV_bound (s : ByteArray) : 0 ≤ (sizeV s).1 ∧ (sizeV s).1 ≤ 4611686018427387904 := by
  unfold sizeV
  by_cases h : (digitsRes s 4611686018427387904).2 = 0
  · rw [if_pos h]
    unfold digitsRes at h ⊢
    repeat' split
    all_goals first | (constructor <;> (dsimp only; omega)) | (rename_i h1 h2 h3 h4 h5; simp_all)
  · rw [if_neg h]
    split <;> (constructor <;> (dsimp only; omega))
theorem sizeP_bound (l : List S50) : 0 ≤ (sizeP l).1 ∧ (sizeP l).1 ≤ 4611686018427387904 := by
  unfold sizeP
  split
  · constructor <;> (dsimp only; omega)
  · exact sizeV_bound _
  · constructor <;> (dsimp only; omega)
theorem head_small (s : ByteArray) (hs : s.size ≤ 1048576) : (headP s).2.2.1.length < 8796093022208 ∧ smallF (headP s).2.2.1 := by
  have hz : headZ.2.2.1.length < 8796093022208 ∧ smallF headZ.2.2.1 := ⟨by decide, fun f hf => absurd hf (by simp [headZ])⟩
  unfold headP
  split
  · split
    · split
      · refine ⟨?_, ?_⟩
        · show ((((splitL s ⟨#[13, 10]⟩).drop 1).map fldP)).length < _
          rw [List.length_map, List.length_drop, splitL_len s ⟨#[13, 10]⟩ (by decide)]
          have := Lib.countB_le ⟨#[13, 10]⟩ (by decide) s.size s (Nat.le_refl _)
          omega
        · intro f hf
          obtain ⟨x, hx, rfl⟩ := List.mem_map.1 hf
          have h1 := splitL_small s ⟨#[13, 10]⟩ x (List.mem_of_mem_drop hx)
          exact ⟨Nat.le_trans (nameP_size x) (by omega), Nat.le_trans (valueP_size x) (by omega)⟩
      · exact hz
    · exact hz
  · exact hz
theorem endP_room (s : ByteArray) (h : ¬ endP s < 0) : (endP s).toNat + 4 ≤ s.size ∧ (endP s).toNat + 4 ≤ 4096 ∧ endP s = ((endP s).toNat : Int) := by
  have h1 := index_room (s.extract 0 (min s.size 4096)).data.toList crlf4.data.toList (by unfold endP at h; omega)
  have h2 : (s.extract 0 (min s.size 4096)).data.toList.length = min s.size 4096 := by
    rw [Array.length_toList]
    show (s.extract 0 (min s.size 4096)).size = _
    rw [ByteArray.size_extract]; omega
  have h3 : crlf4.data.toList.length = 4 := rfl
  rw [h2, h3] at h1
  unfold endP at h ⊢
  omega
theorem j0_ev (s : ByteArray) (hs : s.size ≤ 281474976702464) (i : Nat) (hi : i + 4 ≤ s.size) (z : Int) (hz : 0 ≤ z ∧ z ≤ 4611686018427387904) (big : Bool) (hb : big = false → z ≤ 8192) (h0 h1 h3 : ByteArray) (h2 : List S50) (h4 : Bool) :
    Ev (fun k => http_Parse.j0 k s z (wrap64 ((i : Int) + 4)) big h0 h1 h2 h3 h4 ⟨#[]⟩ ⟨#[]⟩ ⟨#[]⟩ false) (if big = true then parseZ 171 else if (s.size : Int) - (i + 4 : Nat) < z then parseZ 4 else (h0, h1, h2, s.extract (i + 4) (i + 4 + z.toNat), h4, ((i + 4 : Nat) : Int) + z, 0)) := by
  have e1 : wrap64 ((i : Int) + 4) = ((i + 4 : Nat) : Int) := by rw [wrap64_id (by omega) (by omega)]; omega
  rw [e1]
  refine Ev.step (fun k => by simp only [http_Parse.j0]; exact rfl) ?_
  cases big with
  | true => exact evIfPos rfl (Ev.now _)
  | false =>
    have hz2 := hb rfl
    refine evIfNeg (show ¬ (false = true) by decide) ?_
    rw [if_neg (show ¬ (false = true) by decide)]
    have e2 : wrap64 ((s.size : Int) - ((i + 4 : Nat) : Int)) = (s.size : Int) - ((i + 4 : Nat) : Int) := wrap64_id (by omega) (by omega)
    have e3 : wrap64 (((i + 4 : Nat) : Int) + z) = ((i + 4 : Nat) : Int) + z := wrap64_id (by omega) (by omega)
    rw [e2, e3]
    by_cases hlt : (s.size : Int) - (i + 4 : Nat) < z
    · rw [if_pos hlt, if_pos hlt]
      exact Ev.now _
    · rw [if_neg hlt, if_neg hlt]
      refine evIfPos (by omega) (evIfPos (by omega) (evIfPos (by omega) ?_))
      have e4 : (((i + 4 : Nat) : Int) + z).toNat = i + 4 + z.toNat := by omega
      rw [e4, Int.toNat_natCast]
      exact Ev.now _
theorem parse_ev (s : ByteArray) (hs : s.size ≤ 281474976702464) : Ev (fun k => http_Parse.f k s) (parseP s) := by
  have hm : mn (s.size : Int) 4096 = ((min s.size 4096 : Nat) : Int) := by unfold mn; split <;> omega
  unfold http_Parse.f
  rw [hm]
  refine evIfPos (by omega) (evIfPos (by omega) ?_)
  rw [Int.toNat_natCast]
  refine evBindc (show strings_Index.f (s.extract 0 (min s.size 4096)) ⟨#[13, 10, 13, 10]⟩ = some (endP s) by
    unfold strings_Index.f
    rw [if_pos (by rw [ByteArray.size_extract]; omega)]; rfl) ?_
  unfold parseP
  by_cases h0 : endP s < 0
  · rw [if_pos h0]
    refine evIfPos h0 ?_
    by_cases h1 : 4096 ≤ s.size
    · rw [if_pos h1]
      exact evIfPos (by omega) (Ev.now _)
    · rw [if_neg h1]
      exact evIfNeg (by omega) (Ev.now _)
  · rw [if_neg h0]
    obtain ⟨r1, r2, r3⟩ := endP_room s h0
    refine evIfNeg h0 (evIfPos (by omega) (evIfPos (by omega) ?_))
    have hsz : (s.extract 0 (endP s).toNat).size ≤ 1048576 := by rw [ByteArray.size_extract]; omega
    refine evBindc (show http_head.f (s.extract 0 (endP s).toNat) = some (headP (s.extract 0 (endP s).toNat)) by unfold http_head.f; rw [if_pos hsz]) ?_
    obtain ⟨q1, q2⟩ := head_small _ hsz
    generalize headP (s.extract 0 (endP s).toNat) = H at *
    generalize (endP s) = ei at *
    obtain ⟨i, rfl⟩ : ∃ i : Nat, ei = (i : Int) := ⟨_, r3⟩
    rw [Int.toNat_natCast] at *
    unfold bodyP
    by_cases hh : H.2.2.2.2.2 = true
    · rw [if_pos hh]
      refine evIfPos hh (evBindc (size_f _ _ _ _ _ q1 q2) ?_)
      have hzb := sizeP_bound H.2.2.1
      generalize sizeP H.2.2.1 = z at *
      by_cases hz : z.2.1 = true
      · have := j0_ev s hs i r1 z.1 hzb true (fun h => by cases h) H.1 H.2.1 H.2.2.2.1 H.2.2.1 H.2.2.2.2.1
        rw [hz, Bool.true_or]
        exact evIfPos rfl this
      · have hz' : z.2.1 = false := Bool.eq_false_iff.2 hz
        have := j0_ev s hs i r1 z.1 hzb (decide (z.1 > 8192)) (fun h => by have := of_decide_eq_false h; omega) H.1 H.2.1 H.2.2.2.1 H.2.2.1 H.2.2.2.2.1
        rw [hz', Bool.false_or]
        exact evIfNeg (by decide) this
    · rw [if_neg hh]
      exact evIfNeg hh (Ev.now _)

/-! ### More bytes -/
theorem ext_app (s m : ByteArray) (a b : Nat) (h : b ≤ s.size) : (s ++ m).extract a b = s.extract a b := by
  apply row_data_inj
  rw [ByteArray.data_extract, ByteArray.data_extract, ByteArray.data_append, Array.toList_extract, Array.toList_extract, Array.toList_append, List.extract_eq_take_drop, List.extract_eq_take_drop]
  have hl : s.data.toList.length = s.size := Array.length_toList
  by_cases hab : a ≤ b
  · rw [List.drop_append_of_le_length (by omega), List.take_append_of_le_length (by rw [List.length_drop]; omega)]
  · rw [show b - a = 0 by omega, List.take_zero, List.take_zero]
theorem endP_more (s m : ByteArray) (h : ¬ endP s < 0) : endP (s ++ m) = endP s := by
  unfold endP at h ⊢
  obtain ⟨t, ht⟩ : ∃ t, ((s ++ m).extract 0 (min (s ++ m).size 4096)).data.toList = (s.extract 0 (min s.size 4096)).data.toList ++ t := by
    rw [ByteArray.data_extract, ByteArray.data_extract, ByteArray.data_append, Array.toList_extract, Array.toList_extract, Array.toList_append, List.extract_eq_take_drop, List.extract_eq_take_drop]
    have hl : s.data.toList.length = s.size := Array.length_toList
    have hsm : (s ++ m).size = s.size + m.size := ByteArray.size_append
    simp only [List.drop_zero, Nat.sub_zero]
    refine ⟨m.data.toList.take (min (s ++ m).size 4096 - s.size), ?_⟩
    rw [List.take_append, hl]
    congr 1
    by_cases h4 : s.size ≤ 4096
    · rw [List.take_of_length_le (by omega), List.take_of_length_le (by omega)]
    · congr 1; omega
  rw [ht, index_app _ _ _ (by omega)]
theorem endP_wide (s m : ByteArray) (h : 4096 ≤ s.size) : endP (s ++ m) = endP s := by
  unfold endP
  have hsm : (s ++ m).size = s.size + m.size := ByteArray.size_append
  rw [show min (s ++ m).size 4096 = 4096 by omega, show min s.size 4096 = 4096 by omega, ext_app s m 0 4096 h]
theorem parse_stable (s m : ByteArray) (h : (parseP s).2.2.2.2.2.2 ≠ 4) : parseP (s ++ m) = parseP s := by
  have hsm : (s ++ m).size = s.size + m.size := ByteArray.size_append
  unfold parseP at h ⊢
  by_cases h0 : endP s < 0
  · rw [if_pos h0] at h ⊢
    by_cases h1 : 4096 ≤ s.size
    · rw [endP_wide s m h1, if_pos h0, if_pos (by omega), if_pos h1]
    · rw [if_neg h1] at h
      exact absurd rfl h
  · rw [if_neg h0] at h ⊢
    obtain ⟨r1, r2, r3⟩ := endP_room s h0
    rw [endP_more s m h0, if_neg h0, ext_app s m 0 (endP s).toNat (by omega)]
    have hzb := sizeP_bound (headP (s.extract 0 (endP s).toNat)).2.2.1
    generalize headP (s.extract 0 (endP s).toNat) = H at *
    generalize sizeP H.2.2.1 = z at *
    generalize (endP s).toNat = i at *
    unfold bodyP at h ⊢
    by_cases hh : H.2.2.2.2.2 = true
    · rw [if_pos hh] at h ⊢
      rw [if_pos hh]
      by_cases hz : (z.2.1 || decide (z.1 > 8192)) = true
      · rw [if_pos hz, if_pos hz]
      · rw [if_neg hz] at h ⊢
        rw [if_neg hz]
        by_cases hlt : (s.size : Int) - (i + 4 : Nat) < z.1
        · rw [if_pos hlt] at h
          exact absurd rfl h
        · rw [if_neg hlt, if_neg (by omega), ext_app s m _ _ (by omega)]
    · rw [if_neg hh, if_neg hh]
theorem parse_facts (s : ByteArray) : ((parseP s).2.2.2.2.2.2 ≠ 0 → parseP s = parseZ (parseP s).2.2.2.2.2.2) ∧
    ((parseP s).2.2.2.2.2.2 = 0 → 1 ≤ (parseP s).2.2.2.2.2.1 ∧ (parseP s).2.2.2.2.2.1 ≤ s.size ∧ (parseP s).2.2.2.2.2.1 ≤ 12288) := by
  have hZ : ∀ e : Int, e ≠ 0 → (((parseZ e).2.2.2.2.2.2 ≠ 0 → parseZ e = parseZ (parseZ e).2.2.2.2.2.2) ∧
    ((parseZ e).2.2.2.2.2.2 = 0 → 1 ≤ (parseZ e).2.2.2.2.2.1 ∧ (parseZ e).2.2.2.2.2.1 ≤ s.size ∧ (parseZ e).2.2.2.2.2.1 ≤ 12288)) := fun e he => ⟨fun _ => rfl, fun h => absurd h he⟩
  unfold parseP
  by_cases h0 : endP s < 0
  · rw [if_pos h0]
    split
    · exact hZ _ (by decide)
    · exact hZ _ (by decide)
  · rw [if_neg h0]
    obtain ⟨r1, r2, r3⟩ := endP_room s h0
    have hzb := sizeP_bound (headP (s.extract 0 (endP s).toNat)).2.2.1
    generalize headP (s.extract 0 (endP s).toNat) = H at *
    generalize sizeP H.2.2.1 = z at *
    generalize (endP s).toNat = i at *
    unfold bodyP
    by_cases hh : H.2.2.2.2.2 = true
    · rw [if_pos hh]
      by_cases hz : (z.2.1 || decide (z.1 > 8192)) = true
      · rw [if_pos hz]; exact hZ _ (by decide)
      · rw [if_neg hz]
        by_cases hlt : (s.size : Int) - (i + 4 : Nat) < z.1
        · rw [if_pos hlt]; exact hZ _ (by decide)
        · rw [if_neg hlt]
          have hz8 : z.1 ≤ 8192 := by
            have := Bool.eq_false_iff.2 hz
            rw [Bool.or_eq_false_iff] at this
            have := of_decide_eq_false this.2
            omega
          exact ⟨fun h => absurd rfl h, fun _ => ⟨by dsimp only; omega, by dsimp only; omega, by dsimp only; omega⟩⟩
    · rw [if_neg hh]; exact hZ _ (by decide)
/-! ### Same -/
theorem same_loop (m t b : ByteArray) (c : Bool) (l : List S50) (hl : l.length < 8796093022208) (d : Nat) : ∀ i, i + d = l.length → Ev (fun k => atriumlaw17_Same.l0 k (i : Int) m t l b c m t l b c) true := by
  induction d with
  | zero =>
    intro i hi
    exact Ev.step (fun k => by simp only [atriumlaw17_Same.l0]; exact rfl) (evIfNeg (by omega) (Ev.now _))
  | succ d ih =>
    intro i hi
    refine Ev.step (fun k => by simp only [atriumlaw17_Same.l0]; exact rfl) (evIfPos (by omega) (evIfPos (by omega) (evIfPos (by omega) (evIfNeg (by simp) ?_))))
    rw [wrap64_succ (by omega)]
    exact ih (i + 1) (by omega)
theorem same_ev (m t b : ByteArray) (c : Bool) (l : List S50) (hl : l.length < 8796093022208) : Ev (fun k => atriumlaw17_Same.f k m t l b c m t l b c) true := by
  unfold atriumlaw17_Same.f
  refine evIfPos rfl (evIfPos rfl (evIfPos rfl (evIfNeg (by simp) ?_)))
  refine Ev.step (fun k => by simp only [atriumlaw17_Same.j0]; exact rfl) (evIfNeg (by simp) ?_)
  exact same_loop m t b c l hl l.length 0 (by omega)
theorem parse_len (s : ByteArray) : (parseP s).2.2.1.length < 8796093022208 := by
  unfold parseP
  by_cases h0 : endP s < 0
  · rw [if_pos h0]; split <;> exact (by decide : (0 : Nat) < 8796093022208)
  · rw [if_neg h0]
    obtain ⟨r1, r2, r3⟩ := endP_room s h0
    have q := (head_small (s.extract 0 (endP s).toNat) (by rw [ByteArray.size_extract]; omega)).1
    generalize headP (s.extract 0 (endP s).toNat) = H at *
    unfold bodyP
    split
    · split
      · exact (by decide : (0 : Nat) < 8796093022208)
      · split
        · exact (by decide : (0 : Nat) < 8796093022208)
        · exact q
    · exact (by decide : (0 : Nat) < 8796093022208)
theorem lives_ev : Ev (fun k => atriumlaw17_lives.f k) true := Ev.of atriumlaw17_lives.mono (k := 3) (by decide +kernel)
theorem HttpComes : atriumlaw17_HttpComes.Pure := by
  intro a0 a1 a2 w0 w1 w2
  refine Ev.rounds (g := fun k => atriumlaw17_HttpComes.f k a0 a1 a2) ?_
  unfold atriumlaw17_HttpComes.f
  refine Ev.bind lives_ev (evIfPos rfl (Ev.bind (parse_ev a0 (by omega)) ?_))
  obtain ⟨f1, f2⟩ := parse_facts a0
  by_cases h4 : (parseP a0).2.2.2.2.2.2 = 4
  · have hz := f1 (by omega)
    rw [h4] at hz
    rw [hz]
    refine evIfPos rfl (evIfPos rfl (Ev.bind (same_ev ⟨#[]⟩ ⟨#[]⟩ ⟨#[]⟩ false [] (by decide)) (Ev.now _)))
  · refine evIfNeg h4 (evIfPos (by omega) ?_)
    have hst := parse_stable a0 a1 h4
    refine Ev.bind (parse_ev (a0 ++ a1) (by rw [ByteArray.size_append]; omega)) ?_
    rw [hst]
    refine evIfPos rfl (evIfPos rfl (Ev.bind (same_ev _ _ _ _ _ (parse_len a0)) ?_))
    refine Ev.step (fun k => by simp only [atriumlaw17_HttpComes.j0]; exact rfl) (evIfNeg (by decide) ?_)
    by_cases h0 : (parseP a0).2.2.2.2.2.2 = 0
    · obtain ⟨g1, g2, g3⟩ := f2 h0
      have hearly : ∀ k : Nat, (k : Int) < (parseP a0).2.2.2.2.2.1 → Ev (fun n => (http_Parse.f n (a0.extract 0 k)).bind fun bt => (some (bt.2.2.2.2.2.2 == 4))) true := by
        intro k hk
        have hsplit : a0 = a0.extract 0 k ++ a0.extract k a0.size := by
          rw [← ByteArray.extract_eq_extract_append_extract k (by omega) (by omega), ByteArray.extract_zero_size]
        have he : (parseP (a0.extract 0 k)).2.2.2.2.2.2 = 4 := by
          apply Decidable.byContradiction
          intro hne
          have hs2 := parse_stable (a0.extract 0 k) (a0.extract k a0.size) hne
          rw [← hsplit] at hs2
          have := (parse_facts (a0.extract 0 k)).2 (by rw [← hs2]; exact h0)
          rw [← hs2, ByteArray.size_extract] at this
          omega
        refine Ev.bind (parse_ev (a0.extract 0 k) (by rw [ByteArray.size_extract]; omega)) ?_
        rw [he]
        exact Ev.now _
      generalize (parseP a0).2.2.2.2.2.1 = n at *
      refine evIfPos h0 (evIfNeg (by omega) (evIfNeg (by omega) ?_))
      rw [decide_eq_false (by omega)]
      refine Ev.step (fun k => by simp only [atriumlaw17_HttpComes.j1]; exact rfl) (evIfNeg (by decide) (evIfNeg (by omega) ?_))
      have hb1 : Int.tmod a2 n < n := Int.tmod_lt_of_pos a2 (by omega)
      have hb2 : -n < Int.tmod a2 n := by
        have := Int.lt_tmod_of_pos a2 (show 0 < n by omega)
        exact this
      by_cases hneg : Int.tmod a2 n < 0
      · have ew : wrap64 (Int.tmod a2 n + n) = Int.tmod a2 n + n := wrap64_id (by omega) (by omega)
        rw [ew]
        refine evIfPos hneg (evIfPos (by omega) (evIfPos (by omega) ?_))
        exact hearly _ (by omega)
      · refine evIfNeg hneg (evIfPos (by omega) (evIfPos (by omega) ?_))
        exact hearly _ (by omega)
    · have hz := f1 h0
      refine evIfNeg h0 ?_
      rw [hz]
      exact Ev.now _
end Go.Proofs.YtckbcnmcnhahhaaDoor.Pure
