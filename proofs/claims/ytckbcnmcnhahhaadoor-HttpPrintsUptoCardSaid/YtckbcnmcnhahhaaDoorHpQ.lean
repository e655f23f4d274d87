/- Parse in closed form, the document's small tests (the same as in HttpParses, over another print). -/
import Derived.Test.YtckbcnmcnhahhaaDoorPPx14
namespace Go.Proofs.YtckbcnmcnhahhaaDoor.Pure
open Go Go.RowKit Go.Proofs.YtckbcnmcnhahhaaDoor Go.Proofs.YtckbcnmcnhahhaaDoor.PP Go.Proofs.YtckbcnmcnhahhaaDoorW.PrintWords Go.Proofs.YtckbcnmcnhahhaaDoorW.PrintLast
set_option linter.unusedVariables false
set_option linter.unusedSimpArgs false

/-! ### Index -/
theorem index_room : ∀ (l sub : List UInt8), 0 ≤ Lib.index l sub → Lib.index l sub + sub.length ≤ l.length
  | [], sub, h => by
    unfold Lib.index at h ⊢
    split
    · rename_i he
      rw [List.isEmpty_iff.1 he]; simp
    · rename_i he
      rw [if_neg he] at h; omega
  | b :: l, sub, h => by
    unfold Lib.index at h ⊢
    split
    · rename_i hp
      have := (List.isPrefixOf_iff_prefix.1 hp).length_le
      omega
    · rename_i hp
      rw [if_neg hp] at h
      split
      · rename_i hq
        rw [if_pos hq] at h; omega
      · rename_i hq
        rw [if_neg hq] at h
        have hne : Lib.index l sub ≠ -1 := fun e => hq (by rw [e]; rfl)
        have := Lib.index_ge l sub
        have := index_room l sub (by omega)
        rw [List.length_cons]; omega
theorem index_app (sub : List UInt8) (m : List UInt8) : ∀ (l : List UInt8), 0 ≤ Lib.index l sub → Lib.index (l ++ m) sub = Lib.index l sub
  | [], h => by
    unfold Lib.index at h
    split at h
    · rename_i he
      rw [List.isEmpty_iff.1 he]
      cases m with
      | nil => rfl
      | cons => rfl
    · omega
  | b :: l, h => by
    have hr := index_room (b :: l) sub h
    rw [List.cons_append]
    unfold Lib.index at h hr ⊢
    by_cases hp : sub.isPrefixOf (b :: l) = true
    · rw [if_pos hp, if_pos]
      exact List.isPrefixOf_iff_prefix.2 ((List.isPrefixOf_iff_prefix.1 hp).trans (by rw [← List.cons_append]; exact List.prefix_append _ _))
    · rw [if_neg hp] at h hr ⊢
      by_cases hq : (Lib.index l sub == -1) = true
      · rw [if_pos hq] at h; omega
      · rw [if_neg hq] at h hr ⊢
        have hne : Lib.index l sub ≠ -1 := fun e => hq (by rw [e]; rfl)
        have hge := Lib.index_ge l sub
        have ih := index_app sub m l (by omega)
        have hnp : ¬ sub.isPrefixOf (b :: (l ++ m)) = true := fun hx => hp (by
          rw [← List.cons_append] at hx
          refine List.isPrefixOf_iff_prefix.2 (List.prefix_of_prefix_length_le (List.isPrefixOf_iff_prefix.1 hx) (List.prefix_append _ _) ?_)
          omega)
        rw [if_neg hnp, ih, if_neg hq]

/-! ### Parse -/
abbrev PR := ByteArray × ByteArray × List S50 × ByteArray × Bool × Int × Int
def crlf4 : ByteArray := ⟨#[13, 10, 13, 10]⟩
def endP (s : ByteArray) : Int := Lib.index (s.extract 0 (min s.size 4096)).data.toList crlf4.data.toList
def parseZ (e : Int) : PR := (⟨#[]⟩, ⟨#[]⟩, [], ⟨#[]⟩, false, 0, e)
def bodyP (s : ByteArray) (i : Nat) (h : ByteArray × ByteArray × List S50 × ByteArray × Bool × Bool) (z : Int × Bool × Bool) : PR :=
  if h.2.2.2.2.2 = true then
    if (z.2.1 || decide (z.1 > 8192)) = true then parseZ 171
    else if (s.size : Int) - (i + 4 : Nat) < z.1 then parseZ 4
    else (h.1, h.2.1, h.2.2.1, s.extract (i + 4) (i + 4 + z.1.toNat), h.2.2.2.2.1, ((i + 4 : Nat) : Int) + z.1, 0)
  else parseZ 170
def parseP (s : ByteArray) : PR :=
  if endP s < 0 then (if 4096 ≤ s.size then parseZ 172 else parseZ 4)
  else bodyP s (endP s).toNat (headP (s.extract 0 (endP s).toNat)) (sizeP (headP (s.extract 0 (endP s).toNat)).2.2.1)
theorem sizeV_bound (s : ByteArray) : 0 ≤ (sizeV s).1 ∧ (sizeV s).1 ≤ 4611686018427387904 := by
  unfold sizeV
  by_cases h : (digitsRes s 4611686018427387904).2 = 0
  · rw [if_pos h]
    unfold digitsRes at h ⊢
    repeat' split
    all_goals first | (constructor <;> (dsimp only; omega)) | (rename_i h1 h2 h3 h4 h5; simp_all)
  · rw [if_neg h]
    split <;> (constructor <;> (dsimp only; omega))
theorem sizeP_bound (l : List S50) : 0 ≤ (sizeP l).1 ∧ (sizeP l).1 ≤ 4611686018427387904 := by
  unfold sizeP
  split
  · constructor <;> (dsimp only; omega)
  · exact sizeV_bound _
  · constructor <;> (dsimp only; omega)
theorem head_small (s : ByteArray) (hs : s.size ≤ 1048576) : (headP s).2.2.1.length < 8796093022208 ∧ smallF (headP s).2.2.1 := by
  have hz : headZ.2.2.1.length < 8796093022208 ∧ smallF headZ.2.2.1 := ⟨by decide, fun f hf => absurd hf (by simp [headZ])⟩
  unfold headP
  split
  · split
    · split
      · refine ⟨?_, ?_⟩
        · show ((((splitL s ⟨#[13, 10]⟩).drop 1).map fldP)).length < _
          rw [List.length_map, List.length_drop, splitL_len s ⟨#[13, 10]⟩ (by decide)]
          have := Lib.countB_le ⟨#[13, 10]⟩ (by decide) s.size s (Nat.le_refl _)
          omega
        · intro f hf
          obtain ⟨x, hx, rfl⟩ := List.mem_map.1 hf
          have h1 := splitL_small s ⟨#[13, 10]⟩ x (List.mem_of_mem_drop hx)
          exact ⟨Nat.le_trans (nameP_size x) (by omega), Nat.le_trans (valueP_size x) (by omega)⟩
      · exact hz
    · exact hz
  · exact hz
theorem endP_room (s : ByteArray) (h : ¬ endP s < 0) : (endP s).toNat + 4 ≤ s.size ∧ (endP s).toNat + 4 ≤ 4096 ∧ endP s = ((endP s).toNat : Int) := by
  have h1 := index_room (s.extract 0 (min s.size 4096)).data.toList crlf4.data.toList (by unfold endP at h; omega)
  have h2 : (s.extract 0 (min s.size 4096)).data.toList.length = min s.size 4096 := by
    rw [Array.length_toList]
    show (s.extract 0 (min s.size 4096)).size = _
    rw [ByteArray.size_extract]; omega
  have h3 : crlf4.data.toList.length = 4 := rfl
  rw [h2, h3] at h1
  unfold endP at h ⊢
  omega
theorem j0_ev (s : ByteArray) (hs : s.size ≤ 281474976702464) (i : Nat) (hi : i + 4 ≤ s.size) (z : Int) (hz : 0 ≤ z ∧ z ≤ 4611686018427387904) (big : Bool) (hb : big = false → z ≤ 8192) (h0 h1 h3 : ByteArray) (h2 : List S50) (h4 : Bool) :
    Ev (fun k => http_Parse.j0 k s z (wrap64 ((i : Int) + 4)) big h0 h1 h2 h3 h4 ⟨#[]⟩ ⟨#[]⟩ ⟨#[]⟩ false) (if big = true then parseZ 171 else if (s.size : Int) - (i + 4 : Nat) < z then parseZ 4 else (h0, h1, h2, s.extract (i + 4) (i + 4 + z.toNat), h4, ((i + 4 : Nat) : Int) + z, 0)) := by
  have e1 : wrap64 ((i : Int) + 4) = ((i + 4 : Nat) : Int) := by rw [wrap64_id (by omega) (by omega)]; omega
  rw [e1]
  refine Ev.step (fun k => by simp only [http_Parse.j0]; exact rfl) ?_
  cases big with
  | true => exact evIfPos rfl (Ev.now _)
  | false =>
    have hz2 := hb rfl
    refine evIfNeg (show ¬ (false = true) by decide) ?_
    rw [if_neg (show ¬ (false = true) by decide)]
    have e2 : wrap64 ((s.size : Int) - ((i + 4 : Nat) : Int)) = (s.size : Int) - ((i + 4 : Nat) : Int) := wrap64_id (by omega) (by omega)
    have e3 : wrap64 (((i + 4 : Nat) : Int) + z) = ((i + 4 : Nat) : Int) + z := wrap64_id (by omega) (by omega)
    rw [e2, e3]
    by_cases hlt : (s.size : Int) - (i + 4 : Nat) < z
    · rw [if_pos hlt, if_pos hlt]
      exact Ev.now _
    · rw [if_neg hlt, if_neg hlt]
      refine evIfPos (by omega) (evIfPos (by omega) (evIfPos (by omega) ?_))
      have e4 : (((i + 4 : Nat) : Int) + z).toNat = i + 4 + z.toNat := by omega
      rw [e4, Int.toNat_natCast]
      exact Ev.now _
theorem parse_ev (s : ByteArray) (hs : s.size ≤ 281474976702464) : Ev (fun k => http_Parse.f k s) (parseP s) := by
  have hm : mn (s.size : Int) 4096 = ((min s.size 4096 : Nat) : Int) := by unfold mn; split <;> omega
  unfold http_Parse.f
  rw [hm]
  refine evIfPos (by omega) (evIfPos (by omega) ?_)
  rw [Int.toNat_natCast]
  refine evBindc (show strings_Index.f (s.extract 0 (min s.size 4096)) ⟨#[13, 10, 13, 10]⟩ = some (endP s) by
    unfold strings_Index.f
    rw [if_pos (by rw [ByteArray.size_extract]; omega)]; rfl) ?_
  unfold parseP
  by_cases h0 : endP s < 0
  · rw [if_pos h0]
    refine evIfPos h0 ?_
    by_cases h1 : 4096 ≤ s.size
    · rw [if_pos h1]
      exact evIfPos (by omega) (Ev.now _)
    · rw [if_neg h1]
      exact evIfNeg (by omega) (Ev.now _)
  · rw [if_neg h0]
    obtain ⟨r1, r2, r3⟩ := endP_room s h0
    refine evIfNeg h0 (evIfPos (by omega) (evIfPos (by omega) ?_))
    have hsz : (s.extract 0 (endP s).toNat).size ≤ 1048576 := by rw [ByteArray.size_extract]; omega
    refine evBindc (show http_head.f (s.extract 0 (endP s).toNat) = some (headP (s.extract 0 (endP s).toNat)) by unfold http_head.f; rw [if_pos hsz]) ?_
    obtain ⟨q1, q2⟩ := head_small _ hsz
    generalize headP (s.extract 0 (endP s).toNat) = H at *
    generalize (endP s) = ei at *
    obtain ⟨i, rfl⟩ : ∃ i : Nat, ei = (i : Int) := ⟨_, r3⟩
    rw [Int.toNat_natCast] at *
    unfold bodyP
    by_cases hh : H.2.2.2.2.2 = true
    · rw [if_pos hh]
      refine evIfPos hh (evBindc (size_f _ _ _ _ _ q1 q2) ?_)
      have hzb := sizeP_bound H.2.2.1
      generalize sizeP H.2.2.1 = z at *
      by_cases hz : z.2.1 = true
      · have := j0_ev s hs i r1 z.1 hzb true (fun h => by cases h) H.1 H.2.1 H.2.2.2.1 H.2.2.1 H.2.2.2.2.1
        rw [hz, Bool.true_or]
        exact evIfPos rfl this
      · have hz' : z.2.1 = false := Bool.eq_false_iff.2 hz
        have := j0_ev s hs i r1 z.1 hzb (decide (z.1 > 8192)) (fun h => by have := of_decide_eq_false h; omega) H.1 H.2.1 H.2.2.2.1 H.2.2.1 H.2.2.2.2.1
        rw [hz', Bool.false_or]
        exact evIfNeg (by decide) this
    · rw [if_neg hh]
      exact evIfNeg hh (Ev.now _)

/-! ### Same -/
theorem same_loop (m t b : ByteArray) (c : Bool) (l : List S50) (hl : l.length < 8796093022208) (d : Nat) : ∀ i, i + d = l.length → Ev (fun k => atriumlaw17_Same.l0 k (i : Int) m t l b c m t l b c) true := by
  induction d with
  | zero =>
    intro i hi
    exact Ev.step (fun k => by simp only [atriumlaw17_Same.l0]; exact rfl) (evIfNeg (by omega) (Ev.now _))
  | succ d ih =>
    intro i hi
    refine Ev.step (fun k => by simp only [atriumlaw17_Same.l0]; exact rfl) (evIfPos (by omega) (evIfPos (by omega) (evIfPos (by omega) (evIfNeg (by simp) ?_))))
    rw [wrap64_succ (by omega)]
    exact ih (i + 1) (by omega)
theorem same_ev (m t b : ByteArray) (c : Bool) (l : List S50) (hl : l.length < 8796093022208) : Ev (fun k => atriumlaw17_Same.f k m t l b c m t l b c) true := by
  unfold atriumlaw17_Same.f
  refine evIfPos rfl (evIfPos rfl (evIfPos rfl (evIfNeg (by simp) ?_)))
  refine Ev.step (fun k => by simp only [atriumlaw17_Same.j0]; exact rfl) (evIfNeg (by simp) ?_)
  exact same_loop m t b c l hl l.length 0 (by omega)
theorem lives_ev : Ev (fun k => atriumlaw17_lives.f k) true := Ev.of atriumlaw17_lives.mono (k := 3) (by decide +kernel)
def lettR (c : UInt8) : Bool := (decide (97 ≤ c.toNat) && decide (c.toNat ≤ 122)) || (decide (65 ≤ c.toNat) && decide (c.toNat ≤ 90))
def digR (c : UInt8) : Bool := decide (48 ≤ c.toNat) && decide (c.toNat ≤ 57)
theorem rletter_byte (c : UInt8) : atriumref15_letter.f (c.toNat : Int) = some (lettR c) :=
  of_decide_eq_true (byte_all (fun c => decide (atriumref15_letter.f (c.toNat : Int) = some (lettR c))) (by decide +kernel) c)
theorem rdigit_byte (c : UInt8) : atriumref15_digit.f (c.toNat : Int) = some (digR c) :=
  of_decide_eq_true (byte_all (fun c => decide (atriumref15_digit.f (c.toNat : Int) = some (digR c))) (by decide +kernel) c)
theorem ramong_ev (c : UInt8) : Ev (fun k => atriumref15_among.f k marks (c.toNat : Int)) (marks.data.toList.contains c) :=
  Ev.of (fun k => atriumref15_among.mono marks (c.toNat : Int) k) (k := 20) (of_decide_eq_true (byte_all (fun c => decide (atriumref15_among.f 20 marks (c.toNat : Int) = some (marks.data.toList.contains c))) (by decide +kernel) c))
theorem rtoken_loop (s : ByteArray) (hs : s.size ≤ 140737488351232) (d : Nat) : ∀ i, i + d = s.size → Ev (fun k => atriumref15_Token.l0 k s (i : Int)) ((s.data.toList.drop i).all tokC && decide (0 < s.size)) := by
  induction d with
  | zero =>
    intro i hi
    refine Ev.step (fun k => by simp only [atriumref15_Token.l0]; exact rfl) (evIfNeg (by omega) ?_)
    have hl : s.data.toList.length = s.size := Array.length_toList
    rw [List.drop_of_length_le (by omega), show decide (0 < s.size) = decide ((s.size : Int) > 0) from decide_eq_decide.2 (by omega)]
    exact Ev.now _
  | succ d ih =>
    intro i hi
    have h1 := ih (i + 1) (by omega)
    rw [drop_cons s i (by omega), List.all_cons]
    refine Ev.step (fun k => by simp only [atriumref15_Token.l0]; exact rfl) (evIfPos (by omega) (evIfPos (by omega) ?_))
    rw [bt_nat s i (by omega), wrap64_succ (by omega)]
    generalize s[i] = c at *
    have ht : tokC c = (lettR c || digR c || marks.data.toList.contains c) := rfl
    rw [ht]
    refine evBindc (rletter_byte c) ?_
    cases hb1 : lettR c with
    | true => exact evIfPos rfl (by simpa using h1)
    | false =>
      refine evIfNeg (by decide) (evBindc (rdigit_byte c) ?_)
      cases hb2 : digR c with
      | true => exact evIfPos rfl (by simpa using h1)
      | false =>
        refine evIfNeg (by decide) (Ev.bind (ramong_ev c) ?_)
        cases hm : marks.data.toList.contains c with
        | false => exact evIfNeg (by decide) (Ev.now _)
        | true => exact evIfPos rfl (by simpa using h1)

/-! ### Blanks -/
theorem rdw_cons {α : Type} (p : α → Bool) (a : α) (l : List α) : ((a :: l).reverse.dropWhile p).reverse = if (l.reverse.dropWhile p).isEmpty && p a then [] else a :: (l.reverse.dropWhile p).reverse := by
  rw [List.reverse_cons, List.dropWhile_append]
  cases h : (l.reverse.dropWhile p) with
  | nil =>
    simp only [List.isEmpty_nil, if_true, Bool.true_and]
    cases hp : p a <;> simp [List.dropWhile, hp]
  | cons b t => simp
theorem trims_comm {α : Type} (p : α → Bool) : ∀ l : List α, ((l.reverse.dropWhile p).reverse).dropWhile p = ((l.dropWhile p).reverse.dropWhile p).reverse
  | [] => rfl
  | a :: l => by
    have ih := trims_comm p l
    cases hp : p a with
    | false =>
      rw [rdw_cons, hp, Bool.and_false]
      have h2 : (a :: l).dropWhile p = a :: l := by simp [List.dropWhile, hp]
      rw [h2, rdw_cons, hp, Bool.and_false]
      simp [List.dropWhile, hp]
    | true =>
      have h2 : (a :: l).dropWhile p = l.dropWhile p := by simp [List.dropWhile, hp]
      rw [h2, ← ih, rdw_cons, hp, Bool.and_true]
      cases h : (l.reverse.dropWhile p) with
      | nil => simp
      | cons b t => simp [List.dropWhile, hp]
def blank (c : UInt8) : Bool := [32, 9].contains c
theorem blank_iff (c : UInt8) : blank c = (decide ((c.toNat : Int) = 32) || decide ((c.toNat : Int) = 9)) := by
  have h := byte_all (fun c => blank c == (decide ((c.toNat : Int) = 32) || decide ((c.toNat : Int) = 9))) (by decide +kernel) c
  exact eq_of_beq h
theorem rtrim_loop (n : Nat) : ∀ s : ByteArray, s.size = n → n ≤ 140737488351232 → Ev (fun k => atriumref15_Trim.l1 k s) ⟨((s.data.toList.reverse.dropWhile blank).reverse).toArray⟩ := by
  induction n with
  | zero =>
    intro s hs _
    refine Ev.step (fun k => by simp only [atriumref15_Trim.l1]; exact rfl) (evIfPos ((toList_nil s).2 hs) ?_)
    have : s.data.toList = [] := List.eq_nil_of_length_eq_zero (by rw [Array.length_toList]; exact hs)
    rw [show (⟨((s.data.toList.reverse.dropWhile blank).reverse).toArray⟩ : ByteArray) = s from data_inj (by rw [this]; rfl)]
    exact Ev.now _
  | succ n ih =>
    intro s hs hb
    have hl : s.data.toList.length = n + 1 := by rw [Array.length_toList]; exact hs
    have hsplit : s.data.toList = s.data.toList.take n ++ [s[n]'(by omega)] := by
      have := List.take_succ_eq_append_getElem (l := s.data.toList) (i := n) (by omega)
      rw [List.take_of_length_le (by omega)] at this
      exact this
    have hx : (s.extract 0 n).data.toList = s.data.toList.take n := by
      simp [ByteArray.data_extract, List.extract_eq_take_drop]
    have h1 := ih (s.extract 0 n) (by simp [ByteArray.size_extract]; omega) (by omega)
    rw [hx] at h1
    refine Ev.step (fun k => by simp only [atriumref15_Trim.l1]; exact rfl) (evIfNeg (fun h => absurd ((toList_nil s).1 h) (by omega)) ?_)
    have hw : wrap64 ((s.size : Int) - 1) = ((n : Nat) : Int) := by rw [wrap64_id (by omega) (by omega)]; omega
    rw [hw, Int.toNat_natCast]
    refine evIfPos (by omega) (evIfPos (by omega) ?_)
    rw [bt_nat s n (by omega)]
    have hrev : s.data.toList.reverse = (s[n]'(by omega)) :: (s.data.toList.take n).reverse := by
      conv => lhs; rw [hsplit]
      rw [List.reverse_append]; rfl
    have hbl := blank_iff (s[n]'(by omega))
    by_cases c1 : (((s[n]'(by omega)).toNat : Nat) : Int) = 32
    · refine evIfPos c1 (evIfPos (by omega) ?_)
      rw [hrev, List.dropWhile_cons_of_pos (by rw [hbl, decide_eq_true c1]; rfl)]
      exact h1
    · refine evIfNeg c1 ?_
      by_cases c2 : (((s[n]'(by omega)).toNat : Nat) : Int) = 9
      · refine evIfPos c2 (evIfPos (by omega) ?_)
        rw [hrev, List.dropWhile_cons_of_pos (by rw [hbl, decide_eq_true c2, Bool.or_true])]
        exact h1
      · refine evIfNeg c2 ?_
        rw [show (⟨((s.data.toList.reverse.dropWhile blank).reverse).toArray⟩ : ByteArray) = s from data_inj (by
          rw [hrev, List.dropWhile_cons_of_neg (by rw [hbl, decide_eq_false c1, decide_eq_false c2]; decide), ← hrev]; simp)]
        exact Ev.now _
theorem ltrim_loop (n : Nat) : ∀ s : ByteArray, s.size = n → n ≤ 140737488351232 → Ev (fun k => atriumref15_Trim.l0 k s) ⟨(((s.data.toList.dropWhile blank).reverse.dropWhile blank).reverse).toArray⟩ := by
  induction n with
  | zero =>
    intro s hs hb
    refine Ev.step (fun k => by simp only [atriumref15_Trim.l0]; exact rfl) (evIfPos ((toList_nil s).2 hs) ?_)
    refine Ev.step (fun k => by simp only [atriumref15_Trim.j1]; exact rfl) ?_
    have h := rtrim_loop 0 s hs hb
    have : s.data.toList = [] := List.eq_nil_of_length_eq_zero (by rw [Array.length_toList]; exact hs)
    rw [this] at h ⊢
    exact h
  | succ n ih =>
    intro s hs hb
    have hl : s.data.toList.length = n + 1 := by rw [Array.length_toList]; exact hs
    have hcons : s.data.toList = (s[0]'(by omega)) :: s.data.toList.drop 1 := by
      have := drop_cons s 0 (by omega)
      rw [List.drop_zero] at this
      exact this
    have hx : (s.extract 1 s.size).data.toList = s.data.toList.drop 1 := by
      simp only [ByteArray.data_extract, Array.toList_extract, List.extract_eq_take_drop]
      rw [List.take_of_length_le (by rw [List.length_drop, hl]; omega)]
    have h1 := ih (s.extract 1 s.size) (by simp [ByteArray.size_extract]; omega) (by omega)
    rw [hx] at h1
    have hbl := blank_iff (s[0]'(by omega))
    refine Ev.step (fun k => by simp only [atriumref15_Trim.l0]; exact rfl) (evIfNeg (fun h => absurd ((toList_nil s).1 h) (by omega)) (evIfPos (by omega) ?_))
    rw [show bt s 0 = bt s ((0 : Nat) : Int) from rfl, bt_nat s 0 (by omega)]
    by_cases c1 : (((s[0]'(by omega)).toNat : Nat) : Int) = 32
    · refine evIfPos c1 (evIfPos (by omega) ?_)
      rw [hcons, List.dropWhile_cons_of_pos (by rw [hbl, decide_eq_true c1]; rfl)]
      exact h1
    · refine evIfNeg c1 ?_
      by_cases c2 : (((s[0]'(by omega)).toNat : Nat) : Int) = 9
      · refine evIfPos c2 (evIfPos (by omega) ?_)
        rw [hcons, List.dropWhile_cons_of_pos (by rw [hbl, decide_eq_true c2, Bool.or_true])]
        exact h1
      · refine evIfNeg c2 (Ev.step (fun k => by simp only [atriumref15_Trim.j1]; exact rfl) ?_)
        have h := rtrim_loop (n + 1) s hs hb
        rw [show s.data.toList.dropWhile blank = s.data.toList by
          conv => lhs; rw [hcons]
          rw [List.dropWhile_cons_of_neg (by rw [hbl, decide_eq_false c1, decide_eq_false c2]; decide), ← hcons]]
        exact h
theorem trim_same (s : ByteArray) : Lib.trimS s.data.toList [32, 9] = ((s.data.toList.dropWhile blank).reverse.dropWhile blank).reverse := trims_comm blank s.data.toList

/-! ### The document's small tests -/
theorem rtoken_ev (s : ByteArray) (hs : s.size ≤ 140737488351232) : Ev (fun k => atriumref15_Token.f k s) (tokB s) := rtoken_loop s hs s.size 0 (by omega)
theorem rtrim_ev (s : ByteArray) (hs : s.size ≤ 140737488351232) : Ev (fun k => atriumref15_Trim.f k s) ⟨(Lib.trimS s.data.toList [32, 9]).toArray⟩ := by
  rw [trim_same]
  exact ltrim_loop s.size s rfl hs
theorem rvalue_loop (s : ByteArray) (hs : s.size ≤ 140737488351232) (d : Nat) : ∀ i, i + d = s.size → Ev (fun k => atriumref17_value.l0 k s (i : Int)) ((s.data.toList.drop i).all valC) := by
  induction d with
  | zero =>
    intro i hi
    have hl : s.data.toList.length = s.size := Array.length_toList
    refine Ev.step (fun k => by simp only [atriumref17_value.l0]; exact rfl) (evIfNeg (by omega) ?_)
    rw [List.drop_of_length_le (by omega)]
    exact Ev.now _
  | succ d ih =>
    intro i hi
    have h1 := ih (i + 1) (by omega)
    rw [drop_cons s i (by omega), List.all_cons]
    refine Ev.step (fun k => by simp only [atriumref17_value.l0]; exact rfl) (evIfPos (by omega) (evIfPos (by omega) ?_))
    rw [bt_nat s i (by omega), wrap64_succ (by omega)]
    generalize s[i] = c at *
    have hv : valC c = (c.toNat == 9 || (decide (32 ≤ c.toNat) && !(c.toNat == 127))) := rfl
    by_cases c1 : (c.toNat : Int) < 32
    · refine evIfPos c1 ?_
      by_cases c2 : (c.toNat : Int) = 9
      · have : valC c = true := by rw [hv, beq_iff_eq.2 (by omega)]; rfl
        rw [this, Bool.true_and]
        exact evIfPos c2 (evIfNeg (by omega) h1)
      · have : valC c = false := by rw [hv, beq_eq_false_iff_ne.2 (by omega), decide_eq_false (by omega)]; rfl
        rw [this, Bool.false_and]
        exact evIfNeg c2 (Ev.now _)
    · refine evIfNeg c1 ?_
      by_cases c2 : (c.toNat : Int) = 127
      · have : valC c = false := by rw [hv, beq_eq_false_iff_ne.2 (by omega), beq_iff_eq.2 (show c.toNat = 127 by omega)]; simp
        rw [this, Bool.false_and]
        exact evIfPos c2 (Ev.now _)
      · have : valC c = true := by rw [hv, decide_eq_true (by omega), beq_eq_false_iff_ne.2 (show c.toNat ≠ 127 by omega)]; simp
        rw [this, Bool.true_and]
        exact evIfNeg c2 h1
theorem rvalue_ev (s : ByteArray) (hs : s.size ≤ 140737488351232) : Ev (fun k => atriumref17_value.f k s) (valOk s) := rvalue_loop s hs s.size 0 (by omega)
theorem rmethod_loop (s : ByteArray) (hs : s.size ≤ 140737488351232) (d : Nat) : ∀ i, i + d = s.size → Ev (fun k => atriumref17_method.l0 k s (i : Int)) ((s.data.toList.drop i).all upC && (decide (1 ≤ s.size) && decide (s.size ≤ 16))) := by
  induction d with
  | zero =>
    intro i hi
    have hl : s.data.toList.length = s.size := Array.length_toList
    refine Ev.step (fun k => by simp only [atriumref17_method.l0]; exact rfl) (evIfNeg (by omega) ?_)
    rw [List.drop_of_length_le (by omega)]
    by_cases c : 1 ≤ s.size
    · rw [decide_eq_true c]
      have e : decide (s.size ≤ 16) = decide ((s.size : Int) ≤ 16) := by rw [Bool.eq_iff_iff]; simp; omega
      rw [e]
      exact evIfPos (by omega) (Ev.now _)
    · rw [decide_eq_false c]
      exact evIfNeg (by omega) (Ev.now _)
  | succ d ih =>
    intro i hi
    have h1 := ih (i + 1) (by omega)
    rw [drop_cons s i (by omega), List.all_cons]
    refine Ev.step (fun k => by simp only [atriumref17_method.l0]; exact rfl) (evIfPos (by omega) (evIfPos (by omega) ?_))
    rw [bt_nat s i (by omega), wrap64_succ (by omega)]
    generalize s[i] = c at *
    have hv : upC c = (decide (65 ≤ c.toNat) && decide (c.toNat ≤ 90)) := rfl
    by_cases c1 : (c.toNat : Int) < 65
    · rw [hv, decide_eq_false (by omega), Bool.false_and, Bool.false_and, Bool.false_and]
      exact evIfPos c1 (Ev.now _)
    · refine evIfNeg c1 ?_
      by_cases c2 : (c.toNat : Int) > 90
      · rw [hv, decide_eq_false (show ¬ c.toNat ≤ 90 by omega), Bool.and_false, Bool.false_and, Bool.false_and]
        exact evIfPos c2 (Ev.now _)
      · rw [hv, decide_eq_true (show c.toNat ≤ 90 by omega), decide_eq_true (by omega), Bool.and_true, Bool.true_and]
        exact evIfNeg c2 h1
theorem rmethod_ev (s : ByteArray) (hs : s.size ≤ 140737488351232) : Ev (fun k => atriumref17_method.f k s) (s.data.toList.all upC && (decide (1 ≤ s.size) && decide (s.size ≤ 16))) := rmethod_loop s hs s.size 0 (by omega)
theorem hasPrefix_47 (s : ByteArray) (h : 1 ≤ s.size) : Lib.hasPrefix s.data.toList [47] = (bt s 0 == 47) := by
  have e : s.data.toList = (s[0]'(by omega)) :: s.data.toList.drop 1 := by
    have := drop_cons s 0 (by omega)
    rwa [List.drop_zero] at this
  have hb : bt s 0 = ((s[0]'(by omega)).toNat : Int) := bt_nat s 0 (by omega)
  rw [e, hb]
  generalize s[0] = c
  have h2 : ∀ l : List UInt8, Lib.hasPrefix (c :: l) [47] = (c == 47) := by
    intro l
    simp [Lib.hasPrefix, List.isPrefixOf]
    rw [Bool.eq_iff_iff, beq_iff_eq, beq_iff_eq]; exact eq_comm
  rw [h2, Bool.eq_iff_iff, beq_iff_eq, beq_iff_eq]
  constructor
  · intro h; subst h; rfl
  · intro h; exact UInt8.toNat_inj.1 (by have : c.toNat = 47 := by omega
                                         rw [this]; rfl)
theorem rtarget_loop (s : ByteArray) (hs : s.size ≤ 140737488351232) (d : Nat) : ∀ i, i + d = s.size → Ev (fun k => atriumref17_target.l0 k s (i : Int)) ((s.data.toList.drop i).all visC && (decide (1 ≤ s.size) && (decide (s.size ≤ 1024) && (bt s 0 == 47)))) := by
  induction d with
  | zero =>
    intro i hi
    have hl : s.data.toList.length = s.size := Array.length_toList
    refine Ev.step (fun k => by simp only [atriumref17_target.l0]; exact rfl) (evIfNeg (by omega) ?_)
    rw [List.drop_of_length_le (by omega)]
    by_cases c : 1 ≤ s.size
    · rw [decide_eq_true c]
      refine evIfPos (by omega) ?_
      by_cases c2 : s.size ≤ 1024
      · rw [decide_eq_true c2]
        exact evIfPos (by omega) (evIfPos (by omega) (Ev.now _))
      · rw [decide_eq_false c2]
        exact evIfNeg (by omega) (Ev.now _)
    · rw [decide_eq_false c]
      exact evIfNeg (by omega) (Ev.now _)
  | succ d ih =>
    intro i hi
    have h1 := ih (i + 1) (by omega)
    rw [drop_cons s i (by omega), List.all_cons]
    refine Ev.step (fun k => by simp only [atriumref17_target.l0]; exact rfl) (evIfPos (by omega) (evIfPos (by omega) ?_))
    rw [bt_nat s i (by omega), wrap64_succ (by omega)]
    generalize s[i] = c at *
    have hv : visC c = (decide (33 ≤ c.toNat) && decide (c.toNat ≤ 126)) := rfl
    by_cases c1 : (c.toNat : Int) < 33
    · rw [hv, decide_eq_false (by omega), Bool.false_and, Bool.false_and, Bool.false_and]
      exact evIfPos c1 (Ev.now _)
    · refine evIfNeg c1 ?_
      by_cases c2 : (c.toNat : Int) > 126
      · rw [hv, decide_eq_false (show ¬ c.toNat ≤ 126 by omega), Bool.and_false, Bool.false_and, Bool.false_and]
        exact evIfPos c2 (Ev.now _)
      · rw [hv, decide_eq_true (show c.toNat ≤ 126 by omega), decide_eq_true (by omega), Bool.and_true, Bool.true_and]
        exact evIfNeg c2 h1
theorem rtarget_ev (s : ByteArray) (hs : s.size ≤ 140737488351232) : Ev (fun k => atriumref17_target.f k s) (s.data.toList.all visC && (decide (1 ≤ s.size) && (decide (s.size ≤ 1024) && (bt s 0 == 47)))) := rtarget_loop s hs s.size 0 (by omega)
theorem line_split (m t : ByteArray) : lineOk m t = ((m.data.toList.all upC && (decide (1 ≤ m.size) && decide (m.size ≤ 16))) && (t.data.toList.all visC && (decide (1 ≤ t.size) && (decide (t.size ≤ 1024) && (bt t 0 == 47))))) := by
  unfold lineOk
  by_cases h : 1 ≤ t.size
  · rw [hasPrefix_47 t h, decide_eq_true h]
    generalize decide (1 ≤ m.size) = b1
    generalize decide (m.size ≤ 16) = b2
    generalize decide (t.size ≤ 1024) = b3
    generalize (bt t 0 == 47) = b4
    generalize m.data.toList.all upC = b5
    generalize t.data.toList.all visC = b6
    revert b1 b2 b3 b4 b5 b6
    decide
  · have e : t.data.toList = [] := List.eq_nil_of_length_eq_zero (by rw [Array.length_toList]; have : t.data.size = t.size := rfl; omega)
    rw [decide_eq_false h, e]
    simp [Lib.hasPrefix]
theorem rall_loop (f0 f1 f3 : ByteArray) (f4 : Bool) (l : List S50) (nm : ByteArray) (hn : nm.size ≤ 9223372036854775807) (hl : l.length < 8796093022208) (hf : ∀ f ∈ l, f.f0.size ≤ 9223372036854775807) (d : Nat) : ∀ (i : Nat) (o : List ByteArray), i + d = l.length → o.length ≤ i → Ev (fun k => atriumref17_All.l0 k nm o (i : Int) f0 f1 l f3 f4) (o ++ allP (l.drop i) nm) := by
  induction d with
  | zero =>
    intro i o hi ho
    refine Ev.step (fun k => by simp only [atriumref17_All.l0]; exact rfl) (evIfNeg (by omega) ?_)
    rw [List.drop_of_length_le (by omega)]
    show Ev _ (o ++ [])
    rw [List.append_nil]
    exact Ev.now _
  | succ d ih =>
    intro i o hi ho
    have hlt : i < l.length := by omega
    have hrd : rd_T50 l (i : Int) = l[i] := by
      unfold rd_T50
      rw [Int.toNat_natCast, List.getD_eq_getElem?_getD, List.getElem?_eq_getElem hlt]; rfl
    refine Ev.step (fun k => by simp only [atriumref17_All.l0]; exact rfl) (evIfPos (by omega) (evIfPos (by omega) ?_))
    rw [hrd, wrap64_succ (by omega), List.drop_eq_getElem_cons hlt]
    refine evBindc (show atriumref15_Lower.f l[i].f0 = some (lowS l[i].f0) by unfold atriumref15_Lower.f; rw [if_pos (hf _ (List.getElem_mem hlt))]) ?_
    refine evBindc (show atriumref15_Lower.f nm = some (lowS nm) by unfold atriumref15_Lower.f; rw [if_pos hn]) ?_
    have hcons : allP (l[i] :: l.drop (i + 1)) nm = if ((lowS l[i].f0).toList == (lowS nm).toList) = true then l[i].f1 :: allP (l.drop (i + 1)) nm else allP (l.drop (i + 1)) nm := by
      unfold allP
      rw [List.filter_cons]
      split <;> simp
    rw [hcons]
    by_cases h : (lowS l[i].f0).toList = (lowS nm).toList
    · rw [if_pos (beq_iff_eq.2 h)]
      refine evIfPos h (evIfPos (by omega) ?_)
      have := ih (i + 1) (o ++ [l[i].f1]) (by omega) (by rw [List.length_append, List.length_singleton]; omega)
      rwa [List.append_assoc] at this
    · rw [if_neg (by rw [beq_iff_eq]; exact h)]
      exact evIfNeg h (ih (i + 1) o (by omega) (by omega))
theorem rall_ev (f0 f1 f3 : ByteArray) (f4 : Bool) (l : List S50) (nm : ByteArray) (hn : nm.size ≤ 9223372036854775807) (hl : l.length < 8796093022208) (hf : ∀ f ∈ l, f.f0.size ≤ 9223372036854775807) : Ev (fun k => atriumref17_All.f k f0 f1 l f3 f4 nm) (allP l nm) :=
  rall_loop f0 f1 f3 f4 l nm hn hl hf l.length 0 [] (by omega) (Nat.zero_le _)
theorem rcloses_loop (l : List ByteArray) (hl : l.length < 9223372036854775807) (hf : ∀ s ∈ l, s.size ≤ 9223372036854775807) (d : Nat) : ∀ i, i + d = l.length → Ev (fun k => atriumref17_closes.l0 k l (i : Int)) ((l.drop i).any fun v => (lowS v).toList == closeL) := by
  induction d with
  | zero =>
    intro i hi
    refine Ev.step (fun k => by simp only [atriumref17_closes.l0]; exact rfl) (evIfNeg (by omega) ?_)
    rw [List.drop_of_length_le (by omega)]
    exact Ev.now _
  | succ d ih =>
    intro i hi
    have hlt : i < l.length := by omega
    have hrd : rdOf ByteArray.empty l (i : Int) = l[i] := by
      unfold rdOf
      rw [Int.toNat_natCast, List.getD_eq_getElem?_getD, List.getElem?_eq_getElem hlt]; rfl
    refine Ev.step (fun k => by simp only [atriumref17_closes.l0]; exact rfl) (evIfPos (by omega) (evIfPos (by omega) ?_))
    rw [hrd, wrap64_succ (by omega), List.drop_eq_getElem_cons hlt, List.any_cons]
    refine evBindc (show atriumref15_Lower.f l[i] = some (lowS l[i]) by unfold atriumref15_Lower.f; rw [if_pos (hf _ (List.getElem_mem hlt))]) ?_
    by_cases h : (lowS l[i]).toList = closeL
    · rw [beq_iff_eq.2 h]
      exact evIfPos h (Ev.now _)
    · rw [beq_eq_false_iff_ne.2 h, Bool.false_or]
      exact evIfNeg h (ih (i + 1) (by omega))
theorem rcloses_ev (f0 f1 f3 : ByteArray) (f4 : Bool) (l : List S50) (hl : l.length < 8796093022208) (hf : smallF l) : Ev (fun k => atriumref17_closes.f k f0 f1 l f3 f4) (closesP l) := by
  refine Ev.bind (rall_ev f0 f1 f3 f4 l connN (by decide) hl (fun f h => (hf f h).1)) ?_
  exact rcloses_loop (allP l connN) (by have := allP_len l connN; omega) (allP_small l connN hf) (allP l connN).length 0 (by omega)
def rfieldsP (l : List S50) : Bool := decide (l.length ≤ 32) && (decide ((allP l hostN).length = 1) && (decide ((allP l lenN).length ≤ 1) && decide ((allP l encN).length = 0)))
theorem rfields_ev (f0 f1 f3 : ByteArray) (f4 : Bool) (l : List S50) (hl : l.length < 8796093022208) (hf : smallF l) : Ev (fun k => atriumref17_fields.f k f0 f1 l f3 f4) (rfieldsP l) := by
  unfold rfieldsP
  have hg := fun f h => (hf f h).1
  by_cases h32 : l.length ≤ 32
  · rw [decide_eq_true h32]
    refine evIfPos (by omega) (Ev.bind (rall_ev f0 f1 f3 f4 l hostN (by decide) hl hg) ?_)
    by_cases h1 : (allP l hostN).length = 1
    · rw [decide_eq_true h1]
      refine evIfPos (by omega) (Ev.bind (rall_ev f0 f1 f3 f4 l lenN (by decide) hl hg) ?_)
      by_cases h2 : (allP l lenN).length ≤ 1
      · rw [decide_eq_true h2]
        refine evIfPos (by omega) (Ev.bind (rall_ev f0 f1 f3 f4 l encN (by decide) hl hg) ?_)
        have e : decide ((allP l encN).length = 0) = (((allP l encN).length : Int) == 0) := by rw [Bool.eq_iff_iff]; simp
        rw [e]
        exact Ev.now _
      · rw [decide_eq_false h2]
        exact evIfNeg (by omega) (Ev.now _)
    · rw [decide_eq_false h1]
      exact evIfNeg (by omega) (Ev.now _)
  · rw [decide_eq_false h32]
    exact evIfNeg (by omega) (Ev.now _)

/-! ### cut and line -/
theorem index_cons (b : UInt8) (l sub : List UInt8) : Lib.index (b :: l) sub = if sub.isPrefixOf (b :: l) then 0 else if Lib.index l sub == -1 then -1 else Lib.index l sub + 1 := by rw [Lib.index]

/-! ### Digits -/
theorem refDigit_byte (c : UInt8) : atriumref15_digit.f (c.toNat : Int) = some (isDig c) :=
  of_decide_eq_true (byte_all (fun c => decide (atriumref15_digit.f (c.toNat : Int) = some (isDig c))) (by decide +kernel) c)

def digEnd (s : ByteArray) (most : Int) : Int × Int := if s.data.toList.all isDig = true then (if most < (digVal s.data.toList : Int) then (0, 3) else ((digVal s.data.toList : Int), 0)) else (0, 150)

theorem refDigits_loop (s : ByteArray) (most : Int) (hs : s.size ≤ 18) (d : Nat) : ∀ i, i + d = s.size → (s.data.toList.take i).all isDig = true →
    Ev (fun k => atriumref15_Digits.l0 k s most (digVal (s.data.toList.take i) : Int) (i : Int)) (digEnd s most) := by
  have hl : s.data.toList.length = s.size := Array.length_toList
  induction d with
  | zero =>
    intro i hi hall
    refine Ev.step (fun k => by simp only [atriumref15_Digits.l0]; exact rfl) ?_
    simp only [if_neg (show ¬ (i : Int) < (s.size : Int) by omega)]
    rw [List.take_of_length_le (by omega)] at hall ⊢
    unfold digEnd
    rw [if_pos hall]
    by_cases hm : most < (digVal s.data.toList : Int)
    · simp only [gt_iff_lt, if_pos hm]; exact Ev.now _
    · simp only [gt_iff_lt, if_neg hm]; exact Ev.now _
  | succ d ih =>
    intro i hi hall
    obtain ⟨b, hb, ht, hbe⟩ := bt_nat' s i (by omega)
    refine Ev.step (fun k => by simp only [atriumref15_Digits.l0]; exact rfl) ?_
    simp only [if_pos (show (i : Int) < (s.size : Int) by omega), if_pos (show (0 : Int) ≤ (i : Int) by omega), hb, refDigit_byte, Option.bind_some]
    cases hd : isDig b with
    | true =>
      have hc : 48 ≤ b.toNat ∧ b.toNat ≤ 57 := by simpa [isDig] using hd
      have hlt := digVal_le17 (s.data.toList.take i) hall (by rw [List.length_take]; omega)
      have hv := digVal_snoc (s.data.toList.take i) b
      simp only [if_true, wrap64_succ (show i < 9223372036854775807 by omega)]
      rw [show wrap64 (wrap64 (10 * (digVal (s.data.toList.take i) : Int)) + ((b.toNat : Int) - 48) % 256) = (digVal (s.data.toList.take (i + 1)) : Int) by
        have e1 : wrap64 (10 * (digVal (s.data.toList.take i) : Int)) = 10 * (digVal (s.data.toList.take i) : Int) := wrap64_id (by omega) (by omega)
        rw [ht, hv, e1, wrap64_id (by omega) (by omega)]; omega]
      exact ih (i + 1) (by omega) (by rw [ht, List.all_append, hall]; simp [hd])
    | false =>
      have : s.data.toList.all isDig = false := all_false_at s i (by omega) (by rw [← hbe]; exact hd)
      simp only [Bool.false_eq_true, if_false, digEnd, this]
      exact Ev.now _

theorem refDigits_ev (s : ByteArray) (most : Int) : Ev (fun k => atriumref15_Digits.f k s most) (digitsRes s most) := by
  unfold digitsRes
  simp only [atriumref15_Digits.f]
  by_cases h1 : s.size < 1
  · simp only [if_pos (show (s.size : Int) < 1 by omega), if_pos h1]
    exact Ev.step (fun k => by simp only [atriumref15_Digits.j0]; exact rfl) (Ev.now _)
  simp only [if_neg (show ¬ (s.size : Int) < 1 by omega), if_neg h1]
  by_cases h2 : 18 < s.size
  · simp only [if_pos (show (s.size : Int) > 18 by omega), if_pos h2]
    exact Ev.step (fun k => by simp only [atriumref15_Digits.j0]; exact rfl) (Ev.now _)
  simp only [if_neg (show ¬ (s.size : Int) > 18 by omega), if_neg h2]
  have hloop : Ev (fun k => atriumref15_Digits.j0 k s most false) (digEnd s most) :=
    Ev.step (fun k => by simp only [atriumref15_Digits.j0]; exact rfl) (refDigits_loop s most (by omega) s.size 0 (by omega) rfl)
  by_cases h3 : 1 < s.size
  · have hb : (bt s 0 == 48) = headNought s := by
      have h0 := bt_nat s 0 (by omega)
      rw [show bt s 0 = ((s[0]'(by omega)).toNat : Int) from h0]
      unfold headNought
      rw [head_byte s (by omega), Bool.eq_iff_iff, beq_iff_eq, decide_eq_true_eq, Option.some.injEq]
      exact ⟨fun h => UInt8.toNat_inj.mp (by simpa using (by omega : (s[0]'(by omega)).toNat = 48)), fun h => by rw [h]; rfl⟩
    simp only [if_pos (show (s.size : Int) > 1 by omega), if_pos (show (0 : Int) < (s.size : Int) by omega), hb]
    cases hh : headNought s with
    | true =>
      rw [if_pos ⟨h3, rfl⟩]
      exact Ev.step (fun k => by simp only [atriumref15_Digits.j0]; exact rfl) (Ev.now _)
    | false =>
      rw [if_neg (by simp)]
      exact hloop
  · simp only [if_neg (show ¬ (s.size : Int) > 1 by omega)]
    rw [if_neg (by omega)]
    exact hloop
/-! ### What the content-length says -/
def rlenV (s : ByteArray) : Int × Int :=
  if (digitsRes s 8192).2 = 3 then (0, 171) else if (digitsRes s 8192).2 = 0 then ((digitsRes s 8192).1, 0) else if s.size ≤ 18 then (0, 170)
  else if headNought s = true then (0, 170) else if digAll s = true then (0, 171) else (0, 170)
theorem rlen_loop (s : ByteArray) (hs : s.size ≤ 9223372036854775807) (d : Nat) : ∀ i, i + d = s.size → Ev (fun k => atriumref17_length.l0 k s (i : Int)) (if (s.data.toList.drop i).all isDig = true then (0, 171) else (0, 170)) := by
  have hl : s.data.toList.length = s.size := Array.length_toList
  induction d with
  | zero =>
    intro i hi
    refine Ev.step (fun k => by simp only [atriumref17_length.l0]; exact rfl) (evIfNeg (by omega) ?_)
    rw [List.drop_of_length_le (by omega)]
    exact Ev.now _
  | succ d ih =>
    intro i hi
    have h1 := ih (i + 1) (by omega)
    rw [drop_cons s i (by omega), List.all_cons]
    refine Ev.step (fun k => by simp only [atriumref17_length.l0]; exact rfl) (evIfPos (by omega) (evIfPos (by omega) ?_))
    rw [bt_nat s i (by omega), wrap64_succ (by omega)]
    generalize s[i] = c at *
    have hv : isDig c = (decide (48 ≤ c.toNat) && decide (c.toNat ≤ 57)) := rfl
    by_cases c1 : (c.toNat : Int) < 48
    · rw [hv, decide_eq_false (by omega), Bool.false_and, Bool.false_and, if_neg Bool.false_ne_true]
      exact evIfPos c1 (Ev.now _)
    · refine evIfNeg c1 ?_
      by_cases c2 : (c.toNat : Int) > 57
      · rw [hv, decide_eq_false (show ¬ c.toNat ≤ 57 by omega), Bool.and_false, Bool.false_and, if_neg Bool.false_ne_true]
        exact evIfPos c2 (Ev.now _)
      · rw [hv, decide_eq_true (show c.toNat ≤ 57 by omega), decide_eq_true (by omega), Bool.and_true, Bool.true_and]
        exact evIfNeg c2 h1
theorem nought_eq (s : ByteArray) (h : 0 < s.size) : (bt s 0 == 48) = headNought s := by
  have h0 := bt_nat s 0 h
  rw [show bt s 0 = ((s[0]'(by omega)).toNat : Int) from h0]
  unfold headNought
  rw [head_byte s (by omega), Bool.eq_iff_iff, beq_iff_eq, decide_eq_true_eq, Option.some.injEq]
  exact ⟨fun h => UInt8.toNat_inj.mp (by simpa using (by omega : (s[0]'(by omega)).toNat = 48)), fun h => by rw [h]; rfl⟩
def rlengthP (l : List S50) : Int × Int :=
  match allP l lenN with
  | [] => (0, 0)
  | s :: _ => rlenV s
theorem rlength_ev (f0 f1 f3 : ByteArray) (f4 : Bool) (l : List S50) (hl : l.length < 8796093022208) (hf : smallF l) : Ev (fun k => atriumref17_length.f k f0 f1 l f3 f4) (rlengthP l) := by
  have hsm := allP_small l lenN hf
  refine Ev.bind (rall_ev f0 f1 f3 f4 l lenN (by decide) hl (fun f h => (hf f h).1)) ?_
  unfold rlengthP
  generalize allP l lenN = L at *
  match L, hsm with
  | [], _ => exact evIfPos rfl (Ev.now _)
  | s :: r, hsm =>
    have hs := hsm s (by simp)
    have hrd : rdOf ByteArray.empty (s :: r) 0 = s := rfl
    rw [hrd]
    refine evIfNeg (by rw [List.length_cons]; omega) (evIfPos (by rw [List.length_cons]; omega) (Ev.bind (refDigits_ev s 8192) ?_))
    show Ev _ (rlenV s)
    unfold rlenV
    by_cases c1 : (digitsRes s 8192).2 = 3
    · rw [if_pos c1]; exact evIfPos c1 (Ev.now _)
    · rw [if_neg c1]
      refine evIfNeg c1 ?_
      by_cases c2 : (digitsRes s 8192).2 = 0
      · rw [if_pos c2]; exact evIfPos c2 (Ev.now _)
      · rw [if_neg c2]
        refine evIfNeg c2 ?_
        by_cases c3 : s.size ≤ 18
        · rw [if_pos c3]
          exact evIfPos (by omega) (Ev.step (fun k => by simp only [atriumref17_length.j0]; exact rfl) (Ev.now _))
        · rw [if_neg c3]
          refine evIfNeg (by omega) (evIfPos (by omega) ?_)
          rw [nought_eq s (by omega)]
          refine Ev.step (fun k => by simp only [atriumref17_length.j0]; exact rfl) ?_
          cases hh : headNought s with
          | true => exact evIfPos (show true = true from rfl) (Ev.now _)
          | false =>
            have := rlen_loop s hs s.size 0 (by omega)
            exact evIfNeg (show ¬ (false = true) by decide) this

/-- The document's length, by what the program's size says. -/
theorem length_rel (s : ByteArray) : rlenV s = if (sizeV s).2.2 = true then (if ((sizeV s).2.1 || decide ((sizeV s).1 > 8192)) = true then (0, 171) else ((sizeV s).1, 0)) else (0, 170) := by
  have hl : s.data.toList.length = s.size := Array.length_toList
  unfold rlenV sizeV
  by_cases h1 : s.size < 1
  · have e : ∀ m, digitsRes s m = (0, 150) := fun m => by unfold digitsRes; rw [if_pos h1]
    rw [e, e, if_neg (by decide), if_neg (by decide), if_pos (by omega)]
    have : decide (0 < s.size) = false := decide_eq_false (by omega)
    rw [this]
    cases digAll s <;> rfl
  · by_cases h2 : 18 < s.size
    · have e : ∀ m, digitsRes s m = (0, 150) := fun m => by unfold digitsRes; rw [if_neg h1, if_pos h2]
      rw [e, e, if_neg (by decide), if_neg (by decide), if_neg (by omega)]
      have : decide (0 < s.size) = true := decide_eq_true (by omega)
      rw [this]
      cases headNought s <;> cases digAll s <;> rfl
    · by_cases h3 : 1 < s.size ∧ headNought s = true
      · have e : ∀ m, digitsRes s m = (0, 150) := fun m => by unfold digitsRes; rw [if_neg h1, if_neg h2, if_pos h3]
        rw [e, e, if_neg (by decide), if_neg (by decide), if_pos (by omega), h3.2]
        cases digAll s <;> cases decide (0 < s.size) <;> rfl
      · by_cases h4 : s.data.toList.all isDig = true
        · have hd := digVal_le18 s.data.toList h4 (by omega)
          have e : ∀ m, digitsRes s m = if m < (digVal s.data.toList : Int) then (0, 3) else ((digVal s.data.toList : Int), 0) := fun m => by unfold digitsRes; rw [if_neg h1, if_neg h2, if_neg h3, if_pos h4]
          rw [e, e]
          generalize digVal s.data.toList = v at *
          rw [if_neg (show ¬ (4611686018427387904 : Int) < (v : Int) by omega), if_pos (show (((v : Int), (0 : Int)) : Int × Int).2 = 0 from rfl)]
          by_cases h5 : (8192 : Int) < (v : Int)
          · rw [if_pos h5, if_pos rfl, if_pos rfl, if_pos (by rw [decide_eq_true (show (v : Int) > 8192 from h5)]; rfl)]
          · rw [if_neg h5, if_neg (show ¬ (((v : Int), (0 : Int)) : Int × Int).2 = 3 from fun h => absurd (show (0 : Int) = 3 from h) (by decide)), if_pos rfl, if_pos rfl, if_neg (by rw [decide_eq_false (show ¬ (v : Int) > 8192 from h5)]; exact Bool.false_ne_true)]
        · have e : ∀ m, digitsRes s m = (0, 150) := fun m => by unfold digitsRes; rw [if_neg h1, if_neg h2, if_neg h3, if_neg h4]
          have hd : digAll s = false := Bool.eq_false_iff.2 h4
          rw [e, e, if_neg (by decide), if_neg (by decide), if_pos (by omega), hd]
          rfl
theorem size_rel (l : List S50) (h : (allP l lenN).length ≤ 1) : rlengthP l = if (sizeP l).2.2 = true then (if ((sizeP l).2.1 || decide ((sizeP l).1 > 8192)) = true then (0, 171) else ((sizeP l).1, 0)) else (0, 170) := by
  unfold rlengthP sizeP
  generalize allP l lenN = L at *
  match L, h with
  | [], _ => rfl
  | [s], _ => exact length_rel s
  | _ :: _ :: _, h => exact absurd h (by simp)
theorem right_rel (l : List S50) : rightP l = ((sizeP l).2.2 && rfieldsP l) := by
  unfold rightP rfieldsP
  by_cases h : (allP l lenN).length ≤ 1
  · rw [decide_eq_true h, Bool.true_and]
  · have : (sizeP l).2.2 = false := by
      unfold sizeP
      generalize allP l lenN = L at *
      match L, h with
      | [], h => exact absurd (by simp) h
      | [s], h => exact absurd (by simp) h
      | _ :: _ :: _, _ => rfl
    rw [this, Bool.false_and, Bool.false_and]

/-! ### Lines -/
/-- A text's pieces, one by one. -/
theorem splitL_hit (s sep : ByteArray) (h1 : 1 ≤ sep.size) (i : Nat) (h : Lib.indexB s sep = i) : splitL s sep = s.extract 0 i :: splitL (s.extract (i + sep.size) s.size) sep := by
  unfold splitL
  rw [Lib.countB_hit s sep i h1 h, Nat.add_comm 1, Lib.splitB_hit sep 0 _ s i h]
  rfl
theorem splitL_miss (s sep : ByteArray) (h : Lib.indexB s sep = -1) : splitL s sep = [s] := Lib.splitB_miss sep 0 _ s h

end Go.Proofs.YtckbcnmcnhahhaaDoor.Pure
