/- Proves that the program's percent-coding of any text, and its reading of any text back, are the document's, and that what was coded is read back. Condition: the text has at most 1048576 bytes (the second form: a coded text is up to three times as long as the text). -/
import Derived.Test.YtkekkabelnmlnaaPTx4
import Derived.Test.YtkekkabelnmlnaaPc
import Derived.Test.YtkekkabelnmlnaaPureTextDigits
namespace Go.Proofs.Ytkekkabelnmlnaa.Pure
set_option linter.unusedVariables false
open Go.RowKit Go.Proofs.Ytkekkabelnmlnaa Go.Proofs.Ytkekkabelnmlnaa.PT Go.Proofs.YtkekkabelnmlnaaW.PrintWords Go.Proofs.YtkekkabelnmlnaaW.PrintLast

/-! ### Bytes -/
def hexVal (c : UInt8) : Int :=
  if 48 ≤ c.toNat ∧ c.toNat ≤ 57 then (c.toNat : Int) - 48 else if 65 ≤ c.toNat ∧ c.toNat ≤ 70 then (c.toNat : Int) - 55 else if 97 ≤ c.toNat ∧ c.toNat ≤ 102 then (c.toNat : Int) - 87 else -1
theorem hexVal_range (c : UInt8) : -1 ≤ hexVal c ∧ hexVal c ≤ 15 :=
  of_decide_eq_true (byte_all (fun c => decide (-1 ≤ hexVal c ∧ hexVal c ≤ 15)) (by decide +kernel) c)
theorem digit_eq (c : UInt8) : text_digit.f (c.toNat : Int) = some (hexVal c) :=
  of_decide_eq_true (byte_all (fun c => decide (text_digit.f (c.toNat : Int) = some (hexVal c))) (by decide +kernel) c)
theorem hex_ev (c : UInt8) : Ev (fun k => atriumref15_hex.f k (c.toNat : Int)) (hexVal c) :=
  Ev.of (k := 3) (fun k => atriumref15_hex.mono _ k) (of_decide_eq_true (byte_all (fun c => decide (atriumref15_hex.f 3 (c.toNat : Int) = some (hexVal c))) (by decide +kernel) c))
def textLetter (c : UInt8) : Bool := (decide (97 ≤ c.toNat) && decide (c.toNat ≤ 122)) || (decide (65 ≤ c.toNat) && decide (c.toNat ≤ 90)) || (decide (48 ≤ c.toNat) && decide (c.toNat ≤ 57))
theorem letter_eq (c : UInt8) : text_letter.f (c.toNat : Int) = some (textLetter c) :=
  of_decide_eq_true (byte_all (fun c => decide (text_letter.f (c.toNat : Int) = some (textLetter c))) (by decide +kernel) c)
theorem plains_eq (c : UInt8) : ∃ q, strings_IndexByte.f ⟨#[45, 46, 95, 126]⟩ (c.toNat : Int) = some q ∧ (textLetter c || decide (q ≥ 0)) = plainB c := by
  refine ⟨Lib.indexByte [45, 46, 95, 126] c, ?_, ?_⟩
  · unfold strings_IndexByte.f; simp
  · exact of_decide_eq_true (byte_all (fun c => decide ((textLetter c || decide (Lib.indexByte [45, 46, 95, 126] c ≥ 0)) = plainB c)) (by decide +kernel) c)
theorem and15 (c : UInt8) : Go.bits .and .u8 (c.toNat : Int) 15 = (c.toNat : Int) % 16 :=
  of_decide_eq_true (byte_all (fun c => decide (Go.bits .and .u8 (c.toNat : Int) 15 = (c.toNat : Int) % 16)) (by decide +kernel) c)
theorem or_hex (a b : Nat) (ha : a < 16) (hb : b < 16) : (Go.bits .or .i64 ((a : Int) * 16) (b : Int)) % 256 = ((a * 16 + b : Nat) : Int) := by
  have h : ((List.range 16).all fun a => (List.range 16).all fun b => decide ((Go.bits .or .i64 ((a : Int) * 16) (b : Int)) % 256 = ((a * 16 + b : Nat) : Int))) = true := by decide +kernel
  exact of_decide_eq_true (List.all_eq_true.1 (List.all_eq_true.1 h a (List.mem_range.2 ha)) b (List.mem_range.2 hb))
theorem hexVal_hexAt (n : Nat) (h : n < 16) : hexVal (hexAt n) = (n : Int) := by
  have h' : ((List.range 16).all fun n => decide (hexVal (hexAt n) = (n : Int))) = true := by decide +kernel
  exact of_decide_eq_true (List.all_eq_true.1 h' n (List.mem_range.2 h))
theorem plain_not37 (c : UInt8) (h : plainB c = true) : c ≠ 37 := by
  rintro rfl; exact absurd h (by decide)

/-! ### Lists of bytes as lists of numbers -/
def numsOf (l : List UInt8) : List Int := l.map fun b => (b.toNat : Int)
theorem strOf_numsOf (l : List UInt8) : strOfNums (numsOf l) = ⟨l.toArray⟩ := by
  apply data_inj
  rw [strOfNums_data, numsOf, List.map_map]
  simp [Function.comp_def]
theorem numsOf_append (a b : List UInt8) : numsOf (a ++ b) = numsOf a ++ numsOf b := by simp [numsOf]
theorem numsOf_length (a : List UInt8) : (numsOf a).length = a.length := by simp [numsOf]
theorem drop_cons (s : ByteArray) (i : Nat) (h : i < s.size) : ∃ b : UInt8, s.data.toList.drop i = b :: s.data.toList.drop (i + 1) ∧ bt s (i : Int) = (b.toNat : Int) ∧ s.data.toList.take (i + 1) = s.data.toList.take i ++ [b] := by
  obtain ⟨b, h1, h2, h3⟩ := bt_nat' s i h
  refine ⟨b, ?_, h1, h2⟩
  rw [List.drop_eq_getElem_cons (by simpa using h), h3]; rfl
theorem wrap64_add (i j : Nat) (h : i + j ≤ 9223372036854775807) : wrap64 ((i : Int) + (j : Int)) = ((i + j : Nat) : Int) := by rw [wrap64_id (by omega) (by omega)]; rfl
theorem wrap64_add2 (i : Nat) (h : i + 2 ≤ 9223372036854775807) : wrap64 ((i : Int) + 2) = ((i + 2 : Nat) : Int) := wrap64_add i 2 h

/-! ### Escape -/
theorem escAll_len (l : List UInt8) : (escAll l).length ≤ 3 * l.length := by
  induction l with
  | nil => simp [escAll]
  | cons c l ih =>
    have : (escB c).length ≤ 3 := by unfold escB; split <;> simp
    simp only [escAll, List.flatMap_cons, List.length_append, List.length_cons] at *
    omega

theorem escape_loop (s : ByteArray) (hs : s.size ≤ 1048576) (d : Nat) : ∀ i, i + d = s.size →
    Ev (fun k => text_Escape.l0 k s (numsOf (escAll (s.data.toList.take i))) (s.size : Int) (i : Int)) ⟨(escAll s.data.toList).toArray⟩ := by
  have hl : s.data.toList.length = s.size := Array.length_toList
  induction d with
  | zero =>
    intro i hi
    refine Ev.step (fun k => by simp only [text_Escape.l0]; exact rfl) (evIfNeg (by omega) ?_)
    rw [List.take_of_length_le (by omega), strOf_numsOf]
    exact Ev.now _
  | succ d ih =>
    intro i hi
    obtain ⟨b, hb, ht, _⟩ := bt_nat' s i (by omega)
    have hlen := escAll_len (s.data.toList.take i)
    have htl : (s.data.toList.take i).length = i := by rw [List.length_take]; omega
    have hnl := numsOf_length (escAll (s.data.toList.take i))
    obtain ⟨q, hq, hpl⟩ := plains_eq b
    have hroom : (numsOf (escAll (s.data.toList.take i))).length < 140737488355328 := by omega
    have h1 := ih (i + 1) (by omega)
    have hnext : escAll (s.data.toList.take (i + 1)) = escAll (s.data.toList.take i) ++ escB b := by rw [ht]; simp [escAll]
    rw [hnext, numsOf_append] at h1
    refine Ev.step (fun k => by simp only [text_Escape.l0]; exact rfl) (evIfPos (by omega) (evIfPos (by omega) (evIfPos (by omega) ?_)))
    simp only [hb, wrap64_succ (show i < 9223372036854775807 by omega)]
    refine evBindc (letter_eq b) ?_
    cases hlet : textLetter b with
    | true =>
      have hp : plainB b = true := by rw [← hpl, hlet]; rfl
      rw [show numsOf (escB b) = [(b.toNat : Int)] by simp [escB, hp, numsOf]] at h1
      exact evIfPos rfl (evIfPos hroom h1)
    | false =>
      refine evIfNeg (by simp) (evBindc hq ?_)
      by_cases hq0 : q ≥ 0
      · have hp : plainB b = true := by rw [← hpl, decide_eq_true hq0]; simp
        rw [show numsOf (escB b) = [(b.toNat : Int)] by simp [escB, hp, numsOf]] at h1
        exact evIfPos hq0 (evIfPos hroom h1)
      · have hp : plainB b = false := by rw [← hpl, hlet, decide_eq_false hq0]; rfl
        have hb255 := b.toNat_lt
        have e1 : (bt ⟨#[48, 49, 50, 51, 52, 53, 54, 55, 56, 57, 65, 66, 67, 68, 69, 70]⟩ ((b.toNat : Int) / 16)) = ((hexAt (b.toNat / 16)).toNat : Int) := by
          have h2 := hexAt_hi b
          have h3 := bt_range hexTab ((b.toNat : Int) / 16)
          have h4 := congrArg UInt8.toNat h2
          simp only [UInt8.toNat_ofNat'] at h4
          show bt hexTab ((b.toNat : Int) / 16) = _
          omega
        have e2 : (bt ⟨#[48, 49, 50, 51, 52, 53, 54, 55, 56, 57, 65, 66, 67, 68, 69, 70]⟩ ((b.toNat : Int) % 16)) = ((hexAt (b.toNat % 16)).toNat : Int) := by
          have h2 := hexAt_lo b
          have h3 := bt_range hexTab ((b.toNat : Int) % 16)
          have h4 := congrArg UInt8.toNat h2
          simp only [UInt8.toNat_ofNat'] at h4
          show bt hexTab ((b.toNat : Int) % 16) = _
          omega
        rw [show numsOf (escB b) = [37, ((hexAt (b.toNat / 16)).toNat : Int), ((hexAt (b.toNat % 16)).toNat : Int)] by simp [escB, hp, numsOf]] at h1
        refine evIfNeg hq0 ?_
        simp only [and15, e1, e2]
        exact evIfPos (by omega) (evIfPos (by omega) (evIfPos (by omega) (evIfPos (by omega) (evBindc rfl (evIfPos (by simp only [List.length_cons, List.length_nil]; omega) h1)))))

theorem escape_ev (s : ByteArray) (hs : s.size ≤ 1048576) : Ev (fun k => text_Escape.f k s) ⟨(escAll s.data.toList).toArray⟩ := by
  simp only [text_Escape.f]
  exact escape_loop s hs s.size 0 (by omega)

/-! ### Unescape -/
def unesc : List UInt8 → Option (List UInt8)
  | [] => some []
  | c :: rest =>
    if c = 37 then
      match rest with
      | a :: b :: more => if hexVal a < 0 ∨ hexVal b < 0 then none else (unesc more).map (UInt8.ofNat ((hexVal a).toNat * 16 + (hexVal b).toNat) :: ·)
      | _ => none
    else (unesc rest).map (c :: ·)
def unescRes (acc rest : List UInt8) : ByteArray × Int := match unesc rest with
  | some l => (⟨(acc ++ l).toArray⟩, 0)
  | none => (⟨#[]⟩, 150)

theorem unesc_plain (c : UInt8) (rest : List UInt8) (h : c ≠ 37) : unesc (c :: rest) = (unesc rest).map (c :: ·) := by
  match rest with
  | [] => simp [unesc, h]
  | [a] => simp [unesc, h]
  | a :: b :: m => simp [unesc, h]
theorem unescRes_plain (acc rest : List UInt8) (c : UInt8) (h : c ≠ 37) : unescRes acc (c :: rest) = unescRes (acc ++ [c]) rest := by
  unfold unescRes
  rw [unesc_plain _ _ h]
  cases unesc rest <;> simp
theorem unescRes_bad (acc : List UInt8) (a b : UInt8) (more : List UInt8) (h : hexVal a < 0 ∨ hexVal b < 0) : unescRes acc (37 :: a :: b :: more) = (⟨#[]⟩, 150) := by
  unfold unescRes
  rw [unesc, if_pos rfl, if_pos h]
theorem unescRes_good (acc : List UInt8) (a b : UInt8) (more : List UInt8) (h : ¬ (hexVal a < 0 ∨ hexVal b < 0)) :
    unescRes acc (37 :: a :: b :: more) = unescRes (acc ++ [UInt8.ofNat ((hexVal a).toNat * 16 + (hexVal b).toNat)]) more := by
  unfold unescRes
  rw [unesc, if_pos rfl, if_neg h]
  cases unesc more <;> simp
theorem unescRes_short (acc rest : List UInt8) (h : rest.length < 2) : unescRes acc (37 :: rest) = (⟨#[]⟩, 150) := by
  unfold unescRes
  match rest, h with
  | [], _ => rfl
  | [a], _ => rfl

theorem two_more (s : ByteArray) (i : Nat) (h : i + 2 < s.size) : ∃ a b : UInt8, s.data.toList.drop (i + 1) = a :: b :: s.data.toList.drop (i + 3) ∧ bt s ((i + 1 : Nat) : Int) = (a.toNat : Int) ∧ bt s ((i + 2 : Nat) : Int) = (b.toNat : Int) := by
  obtain ⟨a, h1, h2, _⟩ := drop_cons s (i + 1) (by omega)
  obtain ⟨b, h3, h4, _⟩ := drop_cons s (i + 2) (by omega)
  exact ⟨a, b, by rw [h1, h3], h2, h4⟩

theorem wrap64_16 (a : Int) (h : -1 ≤ a ∧ a ≤ 15) : wrap64 (a * 16) = a * 16 := wrap64_id (by omega) (by omega)

theorem text_unesc (s : ByteArray) (hs : s.size ≤ 4194304) (d : Nat) : ∀ (i : Nat) (acc : List UInt8), s.size ≤ i + d → i ≤ s.size → acc.length ≤ i →
    Ev (fun k => text_Unescape.l0 k s (numsOf acc) (i : Int)) (unescRes acc (s.data.toList.drop i)) := by
  have hl : s.data.toList.length = s.size := Array.length_toList
  induction d using Nat.strongRecOn with
  | _ d ih =>
    intro i acc h1 h2 h3
    have hroom : (numsOf acc).length < 140737488355328 := by rw [numsOf_length]; omega
    rcases Nat.lt_or_ge i s.size with hp | hp
    · obtain ⟨c, hc, hb, _⟩ := drop_cons s i hp
      refine Ev.step (fun k => by simp only [text_Unescape.l0]; exact rfl) (evIfPos (by omega) (evIfPos (by omega) ?_))
      simp only [hb, hc, wrap64_succ (show i < 9223372036854775807 by omega), wrap64_add2 i (by omega)]
      by_cases h37 : c = 37
      · subst h37
        have bad : Ev (fun k => text_Unescape.j1 k s (numsOf acc) (i : Int) true) (⟨#[]⟩, 150) := by
          refine Ev.step (fun k => by simp only [text_Unescape.j1]; exact rfl) ?_
          exact evIfPos trivial (Ev.now _)
        refine evIfPos (by decide) ?_
        rcases Nat.lt_or_ge (i + 2) s.size with h4 | h4
        · obtain ⟨a, b, hab, ha, hb2⟩ := two_more s i h4
          have ra := hexVal_range a
          have rb := hexVal_range b
          refine evIfNeg (by omega) (evIfPos (by omega) (evIfPos (by omega) ?_))
          simp only [ha, hb2, hab]
          refine evBindc (digit_eq a) ?_
          by_cases na : hexVal a < 0
          · rw [unescRes_bad _ _ _ _ (.inl na)]
            exact evIfPos na bad
          refine evIfNeg na (evIfPos (by omega) (evIfPos (by omega) (evBindc (digit_eq b) ?_)))
          by_cases nb : hexVal b < 0
          · rw [unescRes_bad _ _ _ _ (.inr nb), decide_eq_true nb]
            exact bad
          rw [decide_eq_false nb, unescRes_good _ _ _ _ (by omega)]
          refine Ev.step (fun k => by simp only [text_Unescape.j1]; exact rfl) ?_
          simp only [wrap64_succ (show i < 9223372036854775807 by omega), wrap64_add2 i (by omega), ha, hb2]
          refine evIfNeg (by simp) (evIfPos (by omega) (evIfPos (by omega) (evBindc (digit_eq a) (evIfPos (by omega) (evIfPos (by omega) (evBindc (digit_eq b) (evIfPos hroom ?_)))))))
          obtain ⟨x, hx⟩ := Int.eq_ofNat_of_zero_le (show 0 ≤ hexVal a by omega)
          obtain ⟨y, hy⟩ := Int.eq_ofNat_of_zero_le (show 0 ≤ hexVal b by omega)
          have h5 := ih (d - 3) (by omega) (i + 3) (acc ++ [UInt8.ofNat (x * 16 + y)]) (by omega) (by omega) (by simp; omega)
          rw [numsOf_append, show numsOf [UInt8.ofNat (x * 16 + y)] = [((x * 16 + y : Nat) : Int)] by simp [numsOf]; omega] at h5
          have hw := wrap64_succ (n := i + 2) (by omega)
          have e : (Go.bits .or .i64 (wrap64 (hexVal a * 16)) (hexVal b)) % 256 = ((x * 16 + y : Nat) : Int) := by
            rw [wrap64_16 _ ra, hx, hy]
            exact or_hex x y (by omega) (by omega)
          rw [e, hw, hx, hy]
          simp only [Int.toNat_natCast]
          exact h5
        · rw [unescRes_short _ _ (by rw [List.length_drop]; omega)]
          exact evIfPos (by omega) bad
      · rw [unescRes_plain _ _ _ h37]
        have h37' : ¬ (c.toNat : Int) = 37 := fun h => h37 (UInt8.toNat_inj.mp (by simpa using (by omega : c.toNat = 37)))
        have h5 := ih (d - 1) (by omega) (i + 1) (acc ++ [c]) (by omega) (by omega) (by simp; omega)
        rw [numsOf_append] at h5
        exact evIfNeg h37' (evIfPos hroom h5)
    · refine Ev.step (fun k => by simp only [text_Unescape.l0]; exact rfl) (evIfNeg (by omega) ?_)
      rw [List.drop_eq_nil_of_le (by omega), strOf_numsOf]
      simp only [unescRes, unesc, List.append_nil]
      exact Ev.now _

theorem ref_unesc (s : ByteArray) (hs : s.size ≤ 4194304) (d : Nat) : ∀ (i : Nat) (acc : List UInt8), s.size ≤ i + d → i ≤ s.size → acc.length ≤ i →
    Ev (fun k => atriumref15_Unescape.l0 k s (numsOf acc) (i : Int)) (unescRes acc (s.data.toList.drop i)) := by
  have hl : s.data.toList.length = s.size := Array.length_toList
  induction d using Nat.strongRecOn with
  | _ d ih =>
    intro i acc h1 h2 h3
    have hroom : (numsOf acc).length < 140737488355328 := by rw [numsOf_length]; omega
    rcases Nat.lt_or_ge i s.size with hp | hp
    · obtain ⟨c, hc, hb, _⟩ := drop_cons s i hp
      refine Ev.step (fun k => by simp only [atriumref15_Unescape.l0]; exact rfl) (evIfPos (by omega) (evIfPos (by omega) ?_))
      simp only [hb, hc, wrap64_succ (show i < 9223372036854775807 by omega), wrap64_add2 i (by omega)]
      by_cases h37 : c = 37
      · subst h37
        have bad : Ev (fun k => atriumref15_Unescape.j1 k s (numsOf acc) (i : Int) true) (⟨#[]⟩, 150) := by
          refine Ev.step (fun k => by simp only [atriumref15_Unescape.j1]; exact rfl) ?_
          exact evIfPos trivial (Ev.now _)
        refine evIfPos (by decide) ?_
        rcases Nat.lt_or_ge (i + 2) s.size with h4 | h4
        · obtain ⟨a, b, hab, ha, hb2⟩ := two_more s i h4
          have ra := hexVal_range a
          have rb := hexVal_range b
          refine evIfNeg (by omega) (evIfPos (by omega) (evIfPos (by omega) ?_))
          simp only [ha, hb2, hab]
          refine Ev.bind (hex_ev a) ?_
          by_cases na : hexVal a < 0
          · rw [unescRes_bad _ _ _ _ (.inl na)]
            exact evIfPos na bad
          refine evIfNeg na (evIfPos (by omega) (evIfPos (by omega) (Ev.bind (hex_ev b) ?_)))
          by_cases nb : hexVal b < 0
          · rw [unescRes_bad _ _ _ _ (.inr nb), decide_eq_true nb]
            exact bad
          rw [decide_eq_false nb, unescRes_good _ _ _ _ (by omega)]
          refine Ev.step (fun k => by simp only [atriumref15_Unescape.j1]; exact rfl) ?_
          simp only [wrap64_succ (show i < 9223372036854775807 by omega), wrap64_add2 i (by omega), ha, hb2]
          refine evIfNeg (by simp) (evIfPos (by omega) (evIfPos (by omega) (Ev.bind (hex_ev a) (evIfPos (by omega) (evIfPos (by omega) (Ev.bind (hex_ev b) (evIfPos hroom ?_)))))))
          obtain ⟨x, hx⟩ := Int.eq_ofNat_of_zero_le (show 0 ≤ hexVal a by omega)
          obtain ⟨y, hy⟩ := Int.eq_ofNat_of_zero_le (show 0 ≤ hexVal b by omega)
          have h5 := ih (d - 3) (by omega) (i + 3) (acc ++ [UInt8.ofNat (x * 16 + y)]) (by omega) (by omega) (by simp; omega)
          rw [numsOf_append, show numsOf [UInt8.ofNat (x * 16 + y)] = [((x * 16 + y : Nat) : Int)] by simp [numsOf]; omega] at h5
          have hw := wrap64_succ (n := i + 2) (by omega)
          have e : wrap64 (wrap64 (16 * hexVal a) + hexVal b) % 256 = ((x * 16 + y : Nat) : Int) := by
            rw [hx, hy, wrap64_id (x := 16 * (x : Int)) (by omega) (by omega), wrap64_id (by omega) (by omega)]; omega
          rw [e, hw, hx, hy]
          simp only [Int.toNat_natCast]
          exact h5
        · rw [unescRes_short _ _ (by rw [List.length_drop]; omega)]
          exact evIfPos (by omega) bad
      · rw [unescRes_plain _ _ _ h37]
        have h37' : ¬ (c.toNat : Int) = 37 := fun h => h37 (UInt8.toNat_inj.mp (by simpa using (by omega : c.toNat = 37)))
        have h5 := ih (d - 1) (by omega) (i + 1) (acc ++ [c]) (by omega) (by omega) (by simp; omega)
        rw [numsOf_append] at h5
        exact evIfNeg h37' (evIfPos hroom h5)
    · refine Ev.step (fun k => by simp only [atriumref15_Unescape.l0]; exact rfl) (evIfNeg (by omega) ?_)
      rw [List.drop_eq_nil_of_le (by omega), strOf_numsOf]
      simp only [unescRes, unesc, List.append_nil]
      exact Ev.now _

/-! ### Back -/
theorem unesc_escAll (l : List UInt8) : unesc (escAll l) = some l := by
  induction l with
  | nil => rfl
  | cons c l ih =>
    rw [show escAll (c :: l) = escB c ++ escAll l from rfl]
    by_cases hp : plainB c = true
    · rw [show escB c = [c] by simp [escB, hp], List.singleton_append, unesc_plain _ _ (plain_not37 c hp), ih]; rfl
    · have hc := c.toNat_lt
      have h1 := hexVal_hexAt (c.toNat / 16) (by omega)
      have h2 := hexVal_hexAt (c.toNat % 16) (by omega)
      rw [show escB c = [37, hexAt (c.toNat / 16), hexAt (c.toNat % 16)] by simp [escB, hp]]
      simp only [List.cons_append, List.nil_append]
      rw [unesc, if_pos rfl]
      simp only [h1, h2, ih]
      rw [if_neg (by omega)]
      simp only [Int.toNat_natCast, Option.map_some]
      rw [show c.toNat / 16 * 16 + c.toNat % 16 = c.toNat by omega, UInt8.ofNat_toNat]

theorem TextEscapes_upto (s : ByteArray) (hs : s.size ≤ 1048576) : ∃ k, atriumlaw15_TextEscapes.f k s = some true := by
  refine Ev.rounds (g := fun k => atriumlaw15_TextEscapes.f k s) ?_
  have hl : s.data.toList.length = s.size := Array.length_toList
  have hlen := escAll_len s.data.toList
  generalize ht : (⟨(escAll s.data.toList).toArray⟩ : ByteArray) = t
  have htd : t.data.toList = escAll s.data.toList := by rw [← ht]
  have hts : t.size ≤ 4194304 := by
    have h2 : t.data.toList.length = t.size := Array.length_toList
    rw [htd] at h2; omega
  have hE := escape_ev s hs
  rw [ht] at hE
  have hU := text_unesc t hts t.size 0 [] (by omega) (by omega) (by simp)
  rw [List.drop_zero, htd] at hU
  have hback : unescRes [] (escAll s.data.toList) = (s, 0) := by
    unfold unescRes
    rw [unesc_escAll]
    simp only [List.nil_append]
  rw [hback] at hU
  have hV := text_unesc s (by omega) s.size 0 [] (by omega) (by omega) (by simp)
  have hW := ref_unesc s (by omega) s.size 0 [] (by omega) (by omega) (by simp)
  have hR : atriumref15_Escape.f s = some t := by
    unfold atriumref15_Escape.f
    rw [if_pos (by omega), ht]
  simp only [atriumlaw15_TextEscapes.f]
  refine Ev.bind hE (Ev.bind (a := (s, 0)) ?_ (Ev.bind (a := unescRes [] (s.data.toList.drop 0)) ?_ (Ev.bind (a := unescRes [] (s.data.toList.drop 0)) ?_ (Ev.bind lives_ev (evIfPos rfl (evBindc hR (evIfPos rfl (evIfPos rfl (evIfPos rfl (evIfPos rfl ?_))))))))))
  · simp only [text_Unescape.f]; exact hU
  · simp only [text_Unescape.f]; exact hV
  · simp only [atriumref15_Unescape.f]; exact hW
  · rw [beq_self_eq_true]; exact Ev.now _

theorem TextEscapes_walk (s : ByteArray) (w : World) (hs : s.size ≤ 1048576) :
    Calls Try.prog 4 #[.string s] w fun e w' => e = .returned (.bool true) ∧ Below w.heap.size w w' := by
  obtain ⟨k, h⟩ := TextEscapes_upto s hs
  exact atriumlaw15_TextEscapes.calls k s true w h

end Go.Proofs.Ytkekkabelnmlnaa.Pure
