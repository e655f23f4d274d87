/- Parse in closed form, the document's small tests (the same as in HttpParses, over another print). -/
import Derived.Test.YtckbcnmcnhahhaaDoorPIx8
import Derived.Test.YtckbcnmcnhahhaaDoorPIx5
import Derived.Test.YtckbcnmcnhahhaaDoorPIx6
namespace Go.Proofs.YtckbcnmcnhahhaaDoor.Pure
open Go Go.RowKit Go.Proofs.YtckbcnmcnhahhaaDoor Go.Proofs.YtckbcnmcnhahhaaDoor.PI Go.Proofs.YtckbcnmcnhahhaaDoorW.PrintWords Go.Proofs.YtckbcnmcnhahhaaDoorW.PrintLast
set_option linter.unusedVariables false
set_option linter.unusedSimpArgs false

/-! ### Index -/
theorem index_room : ∀ (l sub : List UInt8), 0 ≤ Lib.index l sub → Lib.index l sub + sub.length ≤ l.length
  | [], sub, h => by
    unfold Lib.index at h ⊢
    split
    · rename_i he
      rw [List.isEmpty_iff.1 he]; simp
    · rename_i he
      rw [if_neg he] at h; omega
  | b :: l, sub, h => by
    unfold Lib.index at h ⊢
    split
    · rename_i hp
      have := (List.isPrefixOf_iff_prefix.1 hp).length_le
      omega
    · rename_i hp
      rw [if_neg hp] at h
      split
      · rename_i hq
        rw [if_pos hq] at h; omega
      · rename_i hq
        rw [if_neg hq] at h
        have hne : Lib.index l sub ≠ -1 := fun e => hq (by rw [e]; rfl)
        have := Lib.index_ge l sub
        have := index_room l sub (by omega)
        rw [List.length_cons]; omega
theorem index_app (sub : List UInt8) (m : List UInt8) : ∀ (l : List UInt8), 0 ≤ Lib.index l sub → Lib.index (l ++ m) sub = Lib.index l sub
  | [], h => by
    unfold Lib.index at h
    split at h
    · rename_i he
      rw [List.isEmpty_iff.1 he]
      cases m with
      | nil => rfl
      | cons => rfl
    · omega
  | b :: l, h => by
    have hr := index_room (b :: l) sub h
    rw [List.cons_append]
    unfold Lib.index at h hr ⊢
    by_cases hp : sub.isPrefixOf (b :: l) = true
    · rw [if_pos hp, if_pos]
      exact List.isPrefixOf_iff_prefix.2 ((List.isPrefixOf_iff_prefix.1 hp).trans (by rw [← List.cons_append]; exact List.prefix_append _ _))
    · rw [if_neg hp] at h hr ⊢
      by_cases hq : (Lib.index l sub == -1) = true
      · rw [if_pos hq] at h; omega
      · rw [if_neg hq] at h hr ⊢
        have hne : Lib.index l sub ≠ -1 := fun e => hq (by rw [e]; rfl)
        have hge := Lib.index_ge l sub
        have ih := index_app sub m l (by omega)
        have hnp : ¬ sub.isPrefixOf (b :: (l ++ m)) = true := fun hx => hp (by
          rw [← List.cons_append] at hx
          refine List.isPrefixOf_iff_prefix.2 (List.prefix_of_prefix_length_le (List.isPrefixOf_iff_prefix.1 hx) (List.prefix_append _ _) ?_)
          omega)
        rw [if_neg hnp, ih, if_neg hq]

/-! ### Parse -/
abbrev PR := ByteArray × ByteArray × List S50 × ByteArray × Bool × Int × Int
def crlf4 : ByteArray := ⟨#[13, 10, 13, 10]⟩
def endP (s : ByteArray) : Int := Lib.index (s.extract 0 (min s.size 4096)).data.toList crlf4.data.toList
def parseZ (e : Int) : PR := (⟨#[]⟩, ⟨#[]⟩, [], ⟨#[]⟩, false, 0, e)
def bodyP (s : ByteArray) (i : Nat) (h : ByteArray × ByteArray × List S50 × ByteArray × Bool × Bool) (z : Int × Bool × Bool) : PR :=
  if h.2.2.2.2.2 = true then
    if (z.2.1 || decide (z.1 > 8192)) = true then parseZ 171
    else if (s.size : Int) - (i + 4 : Nat) < z.1 then parseZ 4
    else (h.1, h.2.1, h.2.2.1, s.extract (i + 4) (i + 4 + z.1.toNat), h.2.2.2.2.1, ((i + 4 : Nat) : Int) + z.1, 0)
  else parseZ 170
def parseP (s : ByteArray) : PR :=
  if endP s < 0 then (if 4096 ≤ s.size then parseZ 172 else parseZ 4)
  else bodyP s (endP s).toNat (headP (s.extract 0 (endP s).toNat)) (sizeP (headP (s.extract 0 (endP s).toNat)).2.2.1)
theorem sizeV_bound (s : ByteArray) : 0 ≤ (sizeV s).1 ∧ (sizeV s).1 ≤ 4611686018427387904 := by
  unfold sizeV
  by_cases h : (digitsRes s 4611686018427387904).2 = 0
  · rw [if_pos h]
    unfold digitsRes at h ⊢
    repeat' split
    all_goals first | (constructor <;> (dsimp only; omega)) | (rename_i h1 h2 h3 h4 h5; simp_all)
  · rw [if_neg h]
    split <;> (constructor <;> (dsimp only; omega))
theorem sizeP_bound (l : List S50) : 0 ≤ (sizeP l).1 ∧ (sizeP l).1 ≤ 4611686018427387904 := by
  unfold sizeP
  split
  · constructor <;> (dsimp only; omega)
  · exact sizeV_bound _
  · constructor <;> (dsimp only; omega)
theorem head_small (s : ByteArray) (hs : s.size ≤ 1048576) : (headP s).2.2.1.length < 8796093022208 ∧ smallF (headP s).2.2.1 := by
  have hz : headZ.2.2.1.length < 8796093022208 ∧ smallF headZ.2.2.1 := ⟨by decide, fun f hf => absurd hf (by simp [headZ])⟩
  unfold headP
  split
  · split
    · split
      · refine ⟨?_, ?_⟩
        · show ((((splitL s ⟨#[13, 10]⟩).drop 1).map fldP)).length < _
          rw [List.length_map, List.length_drop, splitL_len s ⟨#[13, 10]⟩ (by decide)]
          have := Lib.countB_le ⟨#[13, 10]⟩ (by decide) s.size s (Nat.le_refl _)
          omega
        · intro f hf
          obtain ⟨x, hx, rfl⟩ := List.mem_map.1 hf
          have h1 := splitL_small s ⟨#[13, 10]⟩ x (List.mem_of_mem_drop hx)
          exact ⟨Nat.le_trans (nameP_size x) (by omega), Nat.le_trans (valueP_size x) (by omega)⟩
      · exact hz
    · exact hz
  · exact hz
theorem endP_room (s : ByteArray) (h : ¬ endP s < 0) : (endP s).toNat + 4 ≤ s.size ∧ (endP s).toNat + 4 ≤ 4096 ∧ endP s = ((endP s).toNat : Int) := by
  have h1 := index_room (s.extract 0 (min s.size 4096)).data.toList crlf4.data.toList (by unfold endP at h; omega)
  have h2 : (s.extract 0 (min s.size 4096)).data.toList.length = min s.size 4096 := by
    rw [Array.length_toList]
    show (s.extract 0 (min s.size 4096)).size = _
    rw [ByteArray.size_extract]; omega
  have h3 : crlf4.data.toList.length = 4 := rfl
  rw [h2, h3] at h1
  unfold endP at h ⊢
  omega
theorem j0_ev (s : ByteArray) (hs : s.size ≤ 281474976702464) (i : Nat) (hi : i + 4 ≤ s.size) (z : Int) (hz : 0 ≤ z ∧ z ≤ 4611686018427387904) (big : Bool) (hb : big = false → z ≤ 8192) (h0 h1 h3 : ByteArray) (h2 : List S50) (h4 : Bool) :
    Ev (fun k => http_Parse.j0 k s z (wrap64 ((i : Int) + 4)) big h0 h1 h2 h3 h4 ⟨#[]⟩ ⟨#[]⟩ ⟨#[]⟩ false) (if big = true then parseZ 171 else if (s.size : Int) - (i + 4 : Nat) < z then parseZ 4 else (h0, h1, h2, s.extract (i + 4) (i + 4 + z.toNat), h4, ((i + 4 : Nat) : Int) + z, 0)) := by
  have e1 : wrap64 ((i : Int) + 4) = ((i + 4 : Nat) : Int) := by rw [wrap64_id (by omega) (by omega)]; omega
  rw [e1]
  refine Ev.step (fun k => by simp only [http_Parse.j0]; exact rfl) ?_
  cases big with
  | true => exact evIfPos rfl (Ev.now _)
  | false =>
    have hz2 := hb rfl
    refine evIfNeg (show ¬ (false = true) by decide) ?_
    rw [if_neg (show ¬ (false = true) by decide)]
    have e2 : wrap64 ((s.size : Int) - ((i + 4 : Nat) : Int)) = (s.size : Int) - ((i + 4 : Nat) : Int) := wrap64_id (by omega) (by omega)
    have e3 : wrap64 (((i + 4 : Nat) : Int) + z) = ((i + 4 : Nat) : Int) + z := wrap64_id (by omega) (by omega)
    rw [e2, e3]
    by_cases hlt : (s.size : Int) - (i + 4 : Nat) < z
    · rw [if_pos hlt, if_pos hlt]
      exact Ev.now _
    · rw [if_neg hlt, if_neg hlt]
      refine evIfPos (by omega) (evIfPos (by omega) (evIfPos (by omega) ?_))
      have e4 : (((i + 4 : Nat) : Int) + z).toNat = i + 4 + z.toNat := by omega
      rw [e4, Int.toNat_natCast]
      exact Ev.now _
theorem parse_ev (s : ByteArray) (hs : s.size ≤ 281474976702464) : Ev (fun k => http_Parse.f k s) (parseP s) := by
  have hm : mn (s.size : Int) 4096 = ((min s.size 4096 : Nat) : Int) := by unfold mn; split <;> omega
  unfold http_Parse.f
  rw [hm]
  refine evIfPos (by omega) (evIfPos (by omega) ?_)
  rw [Int.toNat_natCast]
  refine evBindc (show strings_Index.f (s.extract 0 (min s.size 4096)) ⟨#[13, 10, 13, 10]⟩ = some (endP s) by
    unfold strings_Index.f
    rw [if_pos (by rw [ByteArray.size_extract]; omega)]; rfl) ?_
  unfold parseP
  by_cases h0 : endP s < 0
  · rw [if_pos h0]
    refine evIfPos h0 ?_
    by_cases h1 : 4096 ≤ s.size
    · rw [if_pos h1]
      exact evIfPos (by omega) (Ev.now _)
    · rw [if_neg h1]
      exact evIfNeg (by omega) (Ev.now _)
  · rw [if_neg h0]
    obtain ⟨r1, r2, r3⟩ := endP_room s h0
    refine evIfNeg h0 (evIfPos (by omega) (evIfPos (by omega) ?_))
    have hsz : (s.extract 0 (endP s).toNat).size ≤ 1048576 := by rw [ByteArray.size_extract]; omega
    refine evBindc (show http_head.f (s.extract 0 (endP s).toNat) = some (headP (s.extract 0 (endP s).toNat)) by unfold http_head.f; rw [if_pos hsz]) ?_
    obtain ⟨q1, q2⟩ := head_small _ hsz
    generalize headP (s.extract 0 (endP s).toNat) = H at *
    generalize (endP s) = ei at *
    obtain ⟨i, rfl⟩ : ∃ i : Nat, ei = (i : Int) := ⟨_, r3⟩
    rw [Int.toNat_natCast] at *
    unfold bodyP
    by_cases hh : H.2.2.2.2.2 = true
    · rw [if_pos hh]
      refine evIfPos hh (evBindc (size_f _ _ _ _ _ q1 q2) ?_)
      have hzb := sizeP_bound H.2.2.1
      generalize sizeP H.2.2.1 = z at *
      by_cases hz : z.2.1 = true
      · have := j0_ev s hs i r1 z.1 hzb true (fun h => by cases h) H.1 H.2.1 H.2.2.2.1 H.2.2.1 H.2.2.2.2.1
        rw [hz, Bool.true_or]
        exact evIfPos rfl this
      · have hz' : z.2.1 = false := Bool.eq_false_iff.2 hz
        have := j0_ev s hs i r1 z.1 hzb (decide (z.1 > 8192)) (fun h => by have := of_decide_eq_false h; omega) H.1 H.2.1 H.2.2.2.1 H.2.2.1 H.2.2.2.2.1
        rw [hz', Bool.false_or]
        exact evIfNeg (by decide) this
    · rw [if_neg hh]
      exact evIfNeg hh (Ev.now _)

/-! ### Same -/
theorem same_loop (m t b : ByteArray) (c : Bool) (l : List S50) (hl : l.length < 8796093022208) (d : Nat) : ∀ i, i + d = l.length → Ev (fun k => atriumlaw17_Same.l0 k (i : Int) m t l b c m t l b c) true := by
  induction d with
  | zero =>
    intro i hi
    exact Ev.step (fun k => by simp only [atriumlaw17_Same.l0]; exact rfl) (evIfNeg (by omega) (Ev.now _))
  | succ d ih =>
    intro i hi
    refine Ev.step (fun k => by simp only [atriumlaw17_Same.l0]; exact rfl) (evIfPos (by omega) (evIfPos (by omega) (evIfPos (by omega) (evIfNeg (by simp) ?_))))
    rw [wrap64_succ (by omega)]
    exact ih (i + 1) (by omega)
theorem same_ev (m t b : ByteArray) (c : Bool) (l : List S50) (hl : l.length < 8796093022208) : Ev (fun k => atriumlaw17_Same.f k m t l b c m t l b c) true := by
  unfold atriumlaw17_Same.f
  refine evIfPos rfl (evIfPos rfl (evIfPos rfl (evIfNeg (by simp) ?_)))
  refine Ev.step (fun k => by simp only [atriumlaw17_Same.j0]; exact rfl) (evIfNeg (by simp) ?_)
  exact same_loop m t b c l hl l.length 0 (by omega)
theorem lives_ev : Ev (fun k => atriumlaw17_lives.f k) true := Ev.of atriumlaw17_lives.mono (k := 3) (by decide +kernel)

/-! ### Blanks -/
theorem rdw_cons {α : Type} (p : α → Bool) (a : α) (l : List α) : ((a :: l).reverse.dropWhile p).reverse = if (l.reverse.dropWhile p).isEmpty && p a then [] else a :: (l.reverse.dropWhile p).reverse := by
  rw [List.reverse_cons, List.dropWhile_append]
  cases h : (l.reverse.dropWhile p) with
  | nil =>
    simp only [List.isEmpty_nil, if_true, Bool.true_and]
    cases hp : p a <;> simp [List.dropWhile, hp]
  | cons b t => simp
theorem trims_comm {α : Type} (p : α → Bool) : ∀ l : List α, ((l.reverse.dropWhile p).reverse).dropWhile p = ((l.dropWhile p).reverse.dropWhile p).reverse
  | [] => rfl
  | a :: l => by
    have ih := trims_comm p l
    cases hp : p a with
    | false =>
      rw [rdw_cons, hp, Bool.and_false]
      have h2 : (a :: l).dropWhile p = a :: l := by simp [List.dropWhile, hp]
      rw [h2, rdw_cons, hp, Bool.and_false]
      simp [List.dropWhile, hp]
    | true =>
      have h2 : (a :: l).dropWhile p = l.dropWhile p := by simp [List.dropWhile, hp]
      rw [h2, ← ih, rdw_cons, hp, Bool.and_true]
      cases h : (l.reverse.dropWhile p) with
      | nil => simp
      | cons b t => simp [List.dropWhile, hp]
def blank (c : UInt8) : Bool := [32, 9].contains c

/-! ### The document's small tests -/
theorem hasPrefix_47 (s : ByteArray) (h : 1 ≤ s.size) : Lib.hasPrefix s.data.toList [47] = (bt s 0 == 47) := by
  have e : s.data.toList = (s[0]'(by omega)) :: s.data.toList.drop 1 := by
    have := drop_cons s 0 (by omega)
    rwa [List.drop_zero] at this
  have hb : bt s 0 = ((s[0]'(by omega)).toNat : Int) := bt_nat s 0 (by omega)
  rw [e, hb]
  generalize s[0] = c
  have h2 : ∀ l : List UInt8, Lib.hasPrefix (c :: l) [47] = (c == 47) := by
    intro l
    simp [Lib.hasPrefix, List.isPrefixOf]
    rw [Bool.eq_iff_iff, beq_iff_eq, beq_iff_eq]; exact eq_comm
  rw [h2, Bool.eq_iff_iff, beq_iff_eq, beq_iff_eq]
  constructor
  · intro h; subst h; rfl
  · intro h; exact UInt8.toNat_inj.1 (by have : c.toNat = 47 := by omega
                                         rw [this]; rfl)
theorem line_split (m t : ByteArray) : lineOk m t = ((m.data.toList.all upC && (decide (1 ≤ m.size) && decide (m.size ≤ 16))) && (t.data.toList.all visC && (decide (1 ≤ t.size) && (decide (t.size ≤ 1024) && (bt t 0 == 47))))) := by
  unfold lineOk
  by_cases h : 1 ≤ t.size
  · rw [hasPrefix_47 t h, decide_eq_true h]
    generalize decide (1 ≤ m.size) = b1
    generalize decide (m.size ≤ 16) = b2
    generalize decide (t.size ≤ 1024) = b3
    generalize (bt t 0 == 47) = b4
    generalize m.data.toList.all upC = b5
    generalize t.data.toList.all visC = b6
    revert b1 b2 b3 b4 b5 b6
    decide
  · have e : t.data.toList = [] := List.eq_nil_of_length_eq_zero (by rw [Array.length_toList]; have : t.data.size = t.size := rfl; omega)
    rw [decide_eq_false h, e]
    simp [Lib.hasPrefix]
def rfieldsP (l : List S50) : Bool := decide (l.length ≤ 32) && (decide ((allP l hostN).length = 1) && (decide ((allP l lenN).length ≤ 1) && decide ((allP l encN).length = 0)))

/-! ### cut and line -/
theorem index_cons (b : UInt8) (l sub : List UInt8) : Lib.index (b :: l) sub = if sub.isPrefixOf (b :: l) then 0 else if Lib.index l sub == -1 then -1 else Lib.index l sub + 1 := by rw [Lib.index]

theorem right_rel (l : List S50) : rightP l = ((sizeP l).2.2 && rfieldsP l) := by
  unfold rightP rfieldsP
  by_cases h : (allP l lenN).length ≤ 1
  · rw [decide_eq_true h, Bool.true_and]
  · have : (sizeP l).2.2 = false := by
      unfold sizeP
      generalize allP l lenN = L at *
      match L, h with
      | [], h => exact absurd (by simp) h
      | [s], h => exact absurd (by simp) h
      | _ :: _ :: _, _ => rfl
    rw [this, Bool.false_and, Bool.false_and]

/-! ### Lines -/
/-- A text's pieces, one by one. -/
theorem splitL_hit (s sep : ByteArray) (h1 : 1 ≤ sep.size) (i : Nat) (h : Lib.indexB s sep = i) : splitL s sep = s.extract 0 i :: splitL (s.extract (i + sep.size) s.size) sep := by
  unfold splitL
  rw [Lib.countB_hit s sep i h1 h, Nat.add_comm 1, Lib.splitB_hit sep 0 _ s i h]
  rfl
theorem splitL_miss (s sep : ByteArray) (h : Lib.indexB s sep = -1) : splitL s sep = [s] := Lib.splitB_miss sep 0 _ s h

end Go.Proofs.YtckbcnmcnhahhaaDoor.Pure
