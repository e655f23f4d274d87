/- Plain: digits and letters, read back; small laws. -/
import Derived.Test.YtililaifppblhaaWWords
import Derived.IntWalk
import Derived.Test.YtililaifppblhaaAwk
import Derived.Lib.IndexLaws
namespace Go.Proofs.Ytililaifppblhaa
open Go Go.RowKit Go.Proofs.YtililaifppblhaaW.PrintWords
set_option linter.unusedVariables false
set_option linter.unusedSimpArgs false
theorem bt_nat (s : ByteArray) (k : Nat) (h : k < s.size) : bt s (k : Int) = ((s[k]'h).toNat : Int) := by
  unfold bt
  rw [dif_pos (by simpa using h)]
  rfl
theorem bt_nat' (s : ByteArray) (k : Nat) (h : k < s.size) : ∃ b : UInt8, bt s (k : Int) = (b.toNat : Int) ∧ s.data.toList.take (k + 1) = s.data.toList.take k ++ [b] ∧ b = s[k]'h := by
  refine ⟨s[k]'h, bt_nat s k h, ?_, rfl⟩
  rw [List.take_succ_eq_append_getElem (by simpa using h)]; rfl
theorem wrap64_id {x : Int} (h : -9223372036854775808 ≤ x) (h' : x ≤ 9223372036854775807) : wrap64 x = x := by unfold wrap64; omega
theorem wrap64_nat {n : Nat} (h : n ≤ 9223372036854775807) : wrap64 (n : Int) = (n : Int) := wrap64_id (by omega) (by omega)
theorem wrap64_succ {n : Nat} (h : n < 9223372036854775807) : wrap64 ((n : Int) + 1) = ((n + 1 : Nat) : Int) := by rw [wrap64_id (by omega) (by omega)]; rfl
theorem wrap32_id {x : Int} (h : -2147483648 ≤ x) (h' : x ≤ 2147483647) : wrap32 x = x := by unfold wrap32; omega
theorem toList_inj {a b : ByteArray} : a.toList = b.toList ↔ a = b := by
  rw [ByteArray.toList_eq, ByteArray.toList_eq]
  constructor
  · intro h; cases a; cases b; simp at h; rw [h]
  · intro h; rw [h]
theorem data_inj {a b : ByteArray} (h : a.data.toList = b.data.toList) : a = b := by cases a; cases b; simp at h; rw [h]
/-- A callee without rounds whose answer is known. -/
theorem evBindc {α β : Type} {x : Option α} {f : Nat → α → Option β} {a : α} {r : β} (h : x = some a) (k : Ev (fun n => f n a) r) : Ev (fun n => x.bind (f n)) r := by
  subst h
  exact k
theorem evIfPos {α : Type} {c : Prop} [Decidable c] {f g : Nat → Option α} {r : α} (h : c) (k : Ev f r) : Ev (fun n => if c then f n else g n) r := by
  obtain ⟨K, k⟩ := k
  exact ⟨K, fun n hn => by simp only [if_pos h]; exact k n hn⟩
theorem evIfNeg {α : Type} {c : Prop} [Decidable c] {f g : Nat → Option α} {r : α} (h : ¬ c) (k : Ev g r) : Ev (fun n => if c then f n else g n) r := by
  obtain ⟨K, k⟩ := k
  exact ⟨K, fun n hn => by simp only [if_neg h]; exact k n hn⟩
end Go.Proofs.Ytililaifppblhaa
namespace Go.Proofs.Ytililaifppblhaa.Sha
open Go Go.RowKit Go.Proofs.Ytililaifppblhaa Go.Proofs.YtililaifppblhaaW.PrintWords
set_option linter.unusedVariables false
set_option linter.unusedSimpArgs false

abbrev hl : List UInt8 := hexes.data.toList
abbrev ll : List UInt8 := letters.data.toList
theorem ix_hex : ∀ x, x < 16 → Lib.indexByte hl (hl.getD x 0) = (x : Int) := by decide +kernel
theorem ix_let : ∀ x, x < 64 → Lib.indexByte ll (ll.getD x 0) = (x : Int) := by decide +kernel
theorem ix_at {l : List UInt8} {c : UInt8} {x : Nat} (h : Lib.indexByte l c = (x : Int)) : l.getD x 0 = c := by
  rw [List.getD_eq_getElem?_getD, (Lib.indexByte_some h).1]; rfl
theorem ix_cases (l : List UInt8) (c : UInt8) : Lib.indexByte l c < 0 ∨ ∃ x : Nat, Lib.indexByte l c = (x : Int) ∧ x < l.length := by
  rcases Int.lt_or_le (Lib.indexByte l c) 0 with h | h
  · exact .inl h
  · have h2 := indexByte_lt l c
    exact .inr ⟨(Lib.indexByte l c).toNat, by omega, by omega⟩
theorem hl_len : hl.length = 16 := rfl
theorem ll_len : ll.length = 64 := rfl

/-! ### digits -/
theorem dec4_two {c1 c2 : UInt8} {x y : Nat} (l : List UInt8) (h1 : Lib.indexByte hl c1 = (x : Int)) (h2 : Lib.indexByte hl c2 = (y : Int)) : decG 4 hl (c1 :: c2 :: l) 0 0 = (decG 4 hl l 0 0).map (b8 (16 * x + y) :: ·) := by
  rw [decG_on _ 0 0 h1 (by omega) rfl, decG_out _ _ _ h2 (by omega) rfl rfl]
  simp only [Nat.zero_mul, Nat.zero_add, Nat.reduceAdd, Nat.reduceSub, Nat.pow_zero, Nat.div_one, Nat.mod_one, Nat.reducePow, Nat.sub_self]
  rw [Nat.mul_comm]
theorem dec4_no2 {c1 c2 : UInt8} {x : Nat} (l : List UInt8) (h1 : Lib.indexByte hl c1 = (x : Int)) (h2 : Lib.indexByte hl c2 < 0) : decG 4 hl (c1 :: c2 :: l) 0 0 = none := by
  rw [decG_on _ 0 0 h1 (by omega) rfl, decG_no _ _ _ h2]
theorem dec4_back : ∀ l : List UInt8, decG 4 hl (letB hexes (hexL l)) 0 0 = some l
  | [] => rfl
  | c :: l => by
    have hc := c.toNat_lt
    have e : letB hexes (hexL (c :: l)) = hl.getD (c.toNat / 16) 0 :: hl.getD (c.toNat % 16) 0 :: letB hexes (hexL l) := rfl
    rw [e, dec4_two _ (ix_hex _ (by omega)) (ix_hex _ (by omega)), dec4_back l]
    have e2 : b8 (16 * (c.toNat / 16) + c.toNat % 16) = c := by
      apply UInt8.toNat_inj.1
      rw [b8_nat]; omega
    rw [e2]; rfl
/-- What was read as digits has these digits. -/
theorem dec4_hex : ∀ (n : Nat) (s l : List UInt8), s.length = 2 * n → decG 4 hl s 0 0 = some l → letB hexes (hexL l) = s ∧ l.length = n
  | 0, s, l, hs, h => by
    obtain rfl : s = [] := List.eq_nil_of_length_eq_zero (by omega)
    rw [decG_nil, if_neg (by omega)] at h
    injection h with h
    subst h
    exact ⟨rfl, rfl⟩
  | n + 1, c1 :: c2 :: s, l, hs, h => by
    rcases ix_cases hl c1 with h1 | ⟨x, h1, hx⟩
    · rw [decG_no _ _ _ h1] at h; cases h
    · rcases ix_cases hl c2 with h2 | ⟨y, h2, hy⟩
      · rw [dec4_no2 _ h1 h2] at h; cases h
      · rw [dec4_two _ h1 h2] at h
        cases hd : decG 4 hl s 0 0 with
        | none => rw [hd] at h; cases h
        | some l2 =>
          rw [hd] at h
          injection h with h
          subst h
          obtain ⟨e1, e2⟩ := dec4_hex n s l2 (by simp at hs; omega) hd
          rw [hl_len] at hx hy
          refine ⟨?_, by rw [List.length_cons, e2]⟩
          have e : letB hexes (hexL (b8 (16 * x + y) :: l2)) = hl.getD ((b8 (16 * x + y)).toNat / 16) 0 :: hl.getD ((b8 (16 * x + y)).toNat % 16) 0 :: letB hexes (hexL l2) := rfl
          rw [e, b8_nat, show (16 * x + y) % 256 / 16 = x by omega, show (16 * x + y) % 256 % 16 = y by omega, ix_at h1, ix_at h2, e1]
  | n + 1, [c1], l, hs, h => by simp at hs; omega
  | n + 1, [], l, hs, h => by simp at hs

/-! ### letters -/
/-- The numbers of letters; none: one is no letter. -/
def digs : List UInt8 → Option (List Nat)
  | [] => some []
  | c :: l => if Lib.indexByte ll c < 0 then none else (digs l).map ((Lib.indexByte ll c).toNat :: ·)
theorem digs_no {c : UInt8} (l : List UInt8) (h : Lib.indexByte ll c < 0) : digs (c :: l) = none := by rw [digs, if_pos h]
theorem digs_yes {c : UInt8} {x : Nat} (l : List UInt8) (h : Lib.indexByte ll c = (x : Int)) : digs (c :: l) = (digs l).map (x :: ·) := by
  rw [digs, if_neg (by omega), h, Int.toNat_natCast]
theorem digs_let : ∀ (s : List UInt8) (d : List Nat), digs s = some d → letB letters d = s ∧ (∀ x ∈ d, x < 64) ∧ d.length = s.length
  | [], d, h => by
    injection h with h
    subst h
    exact ⟨rfl, (fun x hx => by cases hx), rfl⟩
  | c :: s, d, h => by
    rcases ix_cases ll c with h1 | ⟨x, h1, hx⟩
    · rw [digs_no _ h1] at h; cases h
    · rw [digs_yes _ h1] at h
      cases hd : digs s with
      | none => rw [hd] at h; cases h
      | some d2 =>
        rw [hd] at h
        injection h with h
        subst h
        obtain ⟨e1, e2, e3⟩ := digs_let s d2 hd
        rw [ll_len] at hx
        refine ⟨?_, fun y hy => ?_, by rw [List.length_cons, List.length_cons, e3]⟩
        · have e : letB letters (x :: d2) = ll.getD x 0 :: letB letters d2 := rfl
          rw [e, ix_at h1, e1]
        · rcases List.mem_cons.1 hy with h | h
          · subst h; exact hx
          · exact e2 y h
theorem let_digs : ∀ d : List Nat, (∀ x ∈ d, x < 64) → digs (letB letters d) = some d
  | [], _ => rfl
  | x :: d, h => by
    have e : letB letters (x :: d) = ll.getD x 0 :: letB letters d := rfl
    rw [e, digs_yes _ (ix_let x (h x (by simp))), let_digs d (fun y hy => h y (by simp [hy]))]
    rfl
/-- What so many numbers of six bits tell, from a state on; and the state behind them. -/
def outS : List Nat → Nat → Nat → List UInt8
  | [], _, _ => []
  | d :: l, now, have_ => if 8 ≤ have_ + 6 then b8 ((now * 64 + d) / 2 ^ (have_ + 6 - 8)) :: outS l ((now * 64 + d) % 2 ^ (have_ + 6 - 8)) (have_ + 6 - 8) else outS l (now * 64 + d) (have_ + 6)
def okS : List Nat → Nat → Nat → Bool
  | [], now, have_ => !(6 ≤ have_ || now != 0)
  | d :: l, now, have_ => if 8 ≤ have_ + 6 then okS l ((now * 64 + d) % 2 ^ (have_ + 6 - 8)) (have_ + 6 - 8) else okS l (now * 64 + d) (have_ + 6)
def decS (d : Option (List Nat)) (now have_ : Nat) : Option (List UInt8) := d.bind fun d => if okS d now have_ = true then some (outS d now have_) else none
theorem decS_none (now have_ : Nat) : decS none now have_ = none := rfl
theorem dec6 : ∀ (s : List UInt8) (now have_ : Nat), decG 6 ll s now have_ = decS (digs s) now have_
  | [], now, have_ => by
    rw [decG_nil]
    show _ = if okS [] now have_ = true then some [] else none
    by_cases h : 6 ≤ have_ ∨ now ≠ 0
    · rw [if_pos h, if_neg]
      simp only [okS, Bool.not_eq_true', Bool.or_eq_false_iff, decide_eq_false_iff_not, bne_eq_false_iff_eq]
      omega
    · rw [if_neg h, if_pos]
      simp only [okS, Bool.not_eq_true', Bool.or_eq_false_iff, decide_eq_false_iff_not, bne_eq_false_iff_eq]
      omega
  | c :: s, now, have_ => by
    rcases ix_cases ll c with h1 | ⟨x, h1, hx⟩
    · rw [decG_no _ _ _ h1, digs_no _ h1]; rfl
    · rw [digs_yes _ h1]
      by_cases h8 : 8 ≤ have_ + 6
      · rw [decG_out _ _ _ h1 h8 rfl rfl, dec6 s]
        cases digs s with
        | none => rfl
        | some d =>
          unfold decS
          simp only [Option.map_some, Option.bind_some, okS, outS, if_pos h8, Nat.reducePow]
          split <;> rfl
      · rw [decG_on _ _ _ h1 h8 rfl, dec6 s]
        cases digs s with
        | none => rfl
        | some d =>
          unfold decS
          simp only [Option.map_some, Option.bind_some, okS, outS, if_neg h8, Nat.reducePow]
theorem out1 (w : Nat) (l : List Nat) : outS (w :: l) 0 0 = outS l w 6 ∧ okS (w :: l) 0 0 = okS l w 6 := by simp [outS, okS]
theorem out2 (w x : Nat) (l : List Nat) (hx : x < 64) : outS (x :: l) w 6 = b8 (w * 4 + x / 16) :: outS l (x % 16) 4 ∧ okS (x :: l) w 6 = okS l (x % 16) 4 := by
  simp only [outS, okS, Nat.reduceAdd, Nat.reduceLeDiff, if_true, Nat.reduceSub, Nat.reducePow]
  rw [show (w * 64 + x) / 16 = w * 4 + x / 16 by omega, show (w * 64 + x) % 16 = x % 16 by omega]
  exact ⟨rfl, rfl⟩
theorem out3 (n y : Nat) (l : List Nat) (hy : y < 64) : outS (y :: l) n 4 = b8 (n * 16 + y / 4) :: outS l (y % 4) 2 ∧ okS (y :: l) n 4 = okS l (y % 4) 2 := by
  simp only [outS, okS, Nat.reduceAdd, Nat.reduceLeDiff, if_true, Nat.reduceSub, Nat.reducePow]
  rw [show (n * 64 + y) / 4 = n * 16 + y / 4 by omega, show (n * 64 + y) % 4 = y % 4 by omega]
  exact ⟨rfl, rfl⟩
theorem out4 (n z : Nat) (l : List Nat) : outS (z :: l) n 2 = b8 (n * 64 + z) :: outS l 0 0 ∧ okS (z :: l) n 2 = okS l 0 0 := by
  constructor
  · rw [outS, if_pos (by omega)]
    simp only [Nat.reduceAdd, Nat.reduceSub, Nat.pow_zero, Nat.div_one, Nat.mod_one, Nat.sub_self]
  · rw [okS, if_pos (by omega)]
    simp only [Nat.reduceAdd, Nat.reduceSub, Nat.pow_zero, Nat.mod_one, Nat.sub_self]
/-- Letters are the ones of the bytes that they tell just if nothing is left behind them. -/
theorem back6 : ∀ d : List Nat, (∀ x ∈ d, x < 64) → (b64L (outS d 0 0) = d ↔ okS d 0 0 = true)
  | [], _ => by simp [outS, okS, b64L]
  | [w], h => by simp [outS, okS, b64L]
  | [w, x], h => by
    have hw := h w (by simp)
    have hx := h x (by simp)
    rw [(out1 w [x]).1, (out1 w [x]).2, (out2 w x [] hx).1, (out2 w x [] hx).2]
    simp only [outS, okS, b64L, b8_nat]
    rw [show (w * 4 + x / 16) % 256 / 4 = w by omega, show (w * 4 + x / 16) % 256 % 4 * 16 = x / 16 * 16 by omega]
    simp
    omega
  | [w, x, y], h => by
    have hw := h w (by simp)
    have hx := h x (by simp)
    have hy := h y (by simp)
    rw [(out1 w [x, y]).1, (out1 w [x, y]).2, (out2 w x [y] hx).1, (out2 w x [y] hx).2, (out3 (x % 16) y [] hy).1, (out3 (x % 16) y [] hy).2]
    simp only [outS, okS, b64L, b8_nat]
    rw [show (w * 4 + x / 16) % 256 / 4 = w by omega, show (w * 4 + x / 16) % 256 % 4 * 16 + (x % 16 * 16 + y / 4) % 256 / 16 = x by omega, show (x % 16 * 16 + y / 4) % 256 % 16 * 4 = y / 4 * 4 by omega]
    simp
    omega
  | w :: x :: y :: z :: d, h => by
    have hw := h w (by simp)
    have hx := h x (by simp)
    have hy := h y (by simp)
    have hz := h z (by simp)
    have ih := back6 d (fun q hq => h q (by simp [hq]))
    rw [(out1 w _).1, (out1 w _).2, (out2 w x _ hx).1, (out2 w x _ hx).2, (out3 (x % 16) y _ hy).1, (out3 (x % 16) y _ hy).2, (out4 (y % 4) z _).1, (out4 (y % 4) z _).2]
    simp only [b64L, b8_nat]
    rw [show (w * 4 + x / 16) % 256 / 4 = w by omega, show (w * 4 + x / 16) % 256 % 4 * 16 + (x % 16 * 16 + y / 4) % 256 / 16 = x by omega, show (x % 16 * 16 + y / 4) % 256 % 16 * 4 + (y % 4 * 64 + z) % 256 / 64 = y by omega, show (y % 4 * 64 + z) % 256 % 64 = z by omega]
    simp only [List.cons.injEq, true_and]
    exact ih
theorem outS_len : ∀ (d : List Nat) (now have_ : Nat), 8 * (outS d now have_).length ≤ 6 * d.length + have_
  | [], _, _ => Nat.zero_le _
  | x :: d, now, have_ => by
    unfold outS
    split
    · rename_i h
      have := outS_len d ((now * 64 + x) % 2 ^ (have_ + 6 - 8)) (have_ + 6 - 8)
      rw [List.length_cons, List.length_cons]
      omega
    · have := outS_len d (now * 64 + x) (have_ + 6)
      rw [List.length_cons]
      omega
theorem out_b64 : ∀ l : List UInt8, outS (b64L l) 0 0 = l ∧ okS (b64L l) 0 0 = true
  | [] => ⟨rfl, rfl⟩
  | [a] => by
    have ha := a.toNat_lt
    simp only [b64L]
    rw [(out1 _ _).1, (out1 _ _).2, (out2 _ _ [] (by omega)).1, (out2 _ _ [] (by omega)).2]
    refine ⟨?_, ?_⟩
    · simp only [outS]
      congr 1
      apply UInt8.toNat_inj.1
      rw [b8_nat]; omega
    · rw [show a.toNat % 4 * 16 % 16 = 0 by omega]; rfl
  | [a, b] => by
    have ha := a.toNat_lt
    have hb := b.toNat_lt
    simp only [b64L]
    rw [(out1 _ _).1, (out1 _ _).2, (out2 _ _ _ (by omega)).1, (out2 _ _ _ (by omega)).2, (out3 _ _ [] (by omega)).1, (out3 _ _ [] (by omega)).2]
    refine ⟨?_, ?_⟩
    · simp only [outS]
      congr 1
      · apply UInt8.toNat_inj.1
        rw [b8_nat]; omega
      · congr 1
        apply UInt8.toNat_inj.1
        rw [b8_nat]; omega
    · rw [show b.toNat % 16 * 4 % 4 = 0 by omega]; rfl
  | a :: b :: c :: l => by
    have ha := a.toNat_lt
    have hb := b.toNat_lt
    have hc := c.toNat_lt
    have ih := out_b64 l
    simp only [b64L]
    rw [(out1 _ _).1, (out1 _ _).2, (out2 _ _ _ (by omega)).1, (out2 _ _ _ (by omega)).2, (out3 _ _ _ (by omega)).1, (out3 _ _ _ (by omega)).2, (out4 _ _ _).1, (out4 _ _ _).2, ih.1]
    refine ⟨?_, ih.2⟩
    congr 1
    · apply UInt8.toNat_inj.1
      rw [b8_nat]; omega
    · congr 1
      · apply UInt8.toNat_inj.1
        rw [b8_nat]; omega
      · congr 1
        apply UInt8.toNat_inj.1
        rw [b8_nat]; omega
end Go.Proofs.Ytililaifppblhaa.Sha
