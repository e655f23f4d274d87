/- Plain: the document's Unhex, Base64, Unbase64, as printed; MacTexts, where the text is of 1048576 bytes at most. -/
import Derived.Test.YtililaifppblhaaPTx2
import Derived.Test.YtililaifppblhaaBPc
namespace Go.Proofs.Ytililaifppblhaa.Pure
open Go Go.RowKit Go.Proofs.Ytililaifppblhaa Go.Proofs.Ytililaifppblhaa.PT Go.Proofs.YtililaifppblhaaW.PrintWords Go.Proofs.YtililaifppblhaaW.PrintLast
set_option linter.unusedVariables false
set_option linter.unusedSimpArgs false

theorem evFindL (al : ByteArray) (c : UInt8) (ha : al.size ≤ 100) : ∀ (d j : Nat), j + d = al.size → Ev (fun k => atriumref04_find.l0 k al (c.toNat : Int) (j : Int)) (if Lib.indexByte (al.data.toList.drop j) c < 0 then -1 else (j : Int) + Lib.indexByte (al.data.toList.drop j) c)
  | 0, j, h => by
    have e : al.data.toList.drop j = [] := List.drop_eq_nil_of_le (by rw [Array.length_toList]; show al.size ≤ j; omega)
    rw [e, if_pos (show Lib.indexByte [] c < 0 by show (-1 : Int) < 0; omega)]
    refine Ev.step (f := fun k => _) (fun k => by rw [atriumref04_find.l0]) ?_
    exact evIfNeg (by omega) (Ev.now _)
  | d + 1, j, h => by
    have hj : j < al.size := by omega
    have e : al.data.toList.drop j = al[j] :: al.data.toList.drop (j + 1) := by
      rw [List.drop_eq_getElem_cons (by rw [Array.length_toList]; exact hj)]; rfl
    have ih := evFindL al c ha d (j + 1) (by omega)
    have hge := Lib.indexByte_ge (al.data.toList.drop (j + 1)) c
    refine Ev.step (f := fun k => _) (fun k => by rw [atriumref04_find.l0]) ?_
    refine evIfPos (by omega) ?_
    refine evIfPos (by omega) ?_
    rw [bt_nat al j hj, e]
    by_cases hb : al[j] = c
    · refine evIfPos (by rw [hb]) ?_
      have e2 : Lib.indexByte (al[j] :: al.data.toList.drop (j + 1)) c = 0 := by unfold Lib.indexByte; rw [if_pos (by simp [hb])]
      rw [e2, if_neg (by decide), Int.add_zero]
      exact Ev.now _
    · refine evIfNeg (fun h2 => hb (UInt8.toNat_inj.1 (by omega))) ?_
      rw [wrap64_succ (by omega)]
      have e2 : (if Lib.indexByte (al[j] :: al.data.toList.drop (j + 1)) c < 0 then -1 else (j : Int) + Lib.indexByte (al[j] :: al.data.toList.drop (j + 1)) c) = (if Lib.indexByte (al.data.toList.drop (j + 1)) c < 0 then -1 else ((j + 1 : Nat) : Int) + Lib.indexByte (al.data.toList.drop (j + 1)) c) := by
        rw [show Lib.indexByte (al[j] :: al.data.toList.drop (j + 1)) c = if Lib.indexByte (al.data.toList.drop (j + 1)) c == -1 then -1 else Lib.indexByte (al.data.toList.drop (j + 1)) c + 1 by
          rw [Lib.indexByte, if_neg (by simpa using hb)]]
        generalize Lib.indexByte (al.data.toList.drop (j + 1)) c = m at *
        by_cases h1 : m = -1
        · subst h1; rfl
        · have h2 : (m == -1) = false := by simpa using h1
          rw [h2]
          simp only [Bool.false_eq_true, if_false]
          rw [if_neg (by omega), if_neg (by omega)]
          omega
      rw [e2]
      exact ih
theorem evFind (al : ByteArray) (c : UInt8) (ha : al.size ≤ 100) : Ev (fun k => atriumref04_find.f k al (c.toNat : Int)) (Lib.indexByte al.data.toList c) := by
  have h := evFindL al c ha al.size 0 (by omega)
  rw [List.drop_zero] at h
  have hge := Lib.indexByte_ge al.data.toList c
  have e : (if Lib.indexByte al.data.toList c < 0 then -1 else ((0 : Nat) : Int) + Lib.indexByte al.data.toList c) = Lib.indexByte al.data.toList c := by
    split <;> omega
  rw [e] at h
  exact h
/-- Bytes as the print's numbers. -/
def nm (l : List UInt8) : List Int := l.map fun c => (c.toNat : Int)
theorem nm_len (l : List UInt8) : (nm l).length = l.length := List.length_map _
theorem nm_snoc (l : List UInt8) (c : UInt8) : nm l ++ [(c.toNat : Int)] = nm (l ++ [c]) := by unfold nm; rw [List.map_append]; rfl
theorem nm_str (l : List UInt8) : strOfNums (nm l) = ⟨l.toArray⟩ := row_str l
theorem b8_int (x : Int) (n : Nat) (h : x = (n : Int)) : x % 256 = ((Sha.b8 n).toNat : Int) := by rw [Sha.b8_nat, h]; omega
theorem drop_at (s : ByteArray) (i : Nat) (h : i < s.size) : s.data.toList.drop i = s[i] :: s.data.toList.drop (i + 1) := by
  rw [List.drop_eq_getElem_cons (by rw [Array.length_toList]; exact h)]; rfl
theorem drop_end (s : ByteArray) (i : Nat) (h : s.size ≤ i) : s.data.toList.drop i = [] := List.drop_eq_nil_of_le (by rw [Array.length_toList]; exact h)

/-! ### Unhex -/
def resH (acc : List UInt8) (r : Option (List UInt8)) : ByteArray × Bool := match r with
  | some l => (⟨(acc ++ l).toArray⟩, true)
  | none => (⟨#[]⟩, false)
theorem evUnhexL (s : ByteArray) (hs : s.size ≤ 140737488351232) : ∀ (d i : Nat) (acc : List UInt8), i + 2 * d = s.size → acc.length ≤ i → Ev (fun k => atriumref04_Unhex.l0 k s (nm acc) (i : Int)) (resH acc (Sha.decG 4 Sha.hl (s.data.toList.drop i) 0 0))
  | 0, i, acc, h, ha => by
    refine Ev.step (f := fun k => _) (fun k => by rw [atriumref04_Unhex.l0]) ?_
    refine evIfNeg (by omega) ?_
    rw [drop_end s i (by omega), Sha.decG_nil, if_neg (by omega), nm_str]
    have e : resH acc (some []) = (⟨acc.toArray⟩, true) := by simp [resH]
    rw [e]
    exact Ev.now _
  | d + 1, i, acc, h, ha => by
    have h1 : i < s.size := by omega
    have h2 : i + 1 < s.size := by omega
    refine Ev.step (f := fun k => _) (fun k => by rw [atriumref04_Unhex.l0]) ?_
    refine evIfPos (by omega) ?_
    refine evIfPos (by omega) ?_
    rw [bt_nat s i h1, wrap64_succ (by omega), bt_nat s (i + 1) h2]
    rw [drop_at s i h1, drop_at s (i + 1) h2]
    refine Ev.bind (evFind Sha.hexes s[i] (by decide)) ?_
    refine evIfPos (by omega) ?_
    refine evIfPos (by omega) ?_
    refine Ev.bind (evFind Sha.hexes s[i + 1] (by decide)) ?_
    rcases Sha.ix_cases Sha.hl s[i] with e1 | ⟨x, e1, hx⟩
    · rw [Sha.decG_no _ _ _ e1]
      exact evIfPos e1 (Ev.now _)
    · refine evIfNeg (by rw [e1]; omega) ?_
      rcases Sha.ix_cases Sha.hl s[i + 1] with e2 | ⟨y, e2, hy⟩
      · rw [Sha.dec4_no2 _ e1 e2]
        exact evIfPos e2 (Ev.now _)
      · refine evIfNeg (by rw [e2]; omega) ?_
        refine evIfPos (by rw [nm_len]; omega) ?_
        rw [Sha.hl_len] at hx hy
        rw [e1, e2, Sha.dec4_two _ e1 e2]
        rw [b8_int _ (16 * x + y) (by rw [wrap64_id (by rw [wrap64_id (by omega) (by omega)]; omega) (by rw [wrap64_id (by omega) (by omega)]; omega), wrap64_id (by omega) (by omega)]; omega), nm_snoc, wrap64_id (x := (i : Int) + 2) (by omega) (by omega)]
        have ih := evUnhexL s hs d (i + 2) (acc ++ [Sha.b8 (16 * x + y)]) (by omega) (by rw [List.length_append, List.length_singleton]; omega)
        have er : resH acc ((Sha.decG 4 Sha.hl (s.data.toList.drop (i + 1 + 1)) 0 0).map (Sha.b8 (16 * x + y) :: ·)) = resH (acc ++ [Sha.b8 (16 * x + y)]) (Sha.decG 4 Sha.hl (s.data.toList.drop (i + 2)) 0 0) := by
          cases Sha.decG 4 Sha.hl (s.data.toList.drop (i + 2)) 0 0 <;> simp [resH]
        rw [er]
        exact ih
theorem evUnhex (s : ByteArray) (hs : s.size ≤ 140737488351232) (he : s.size % 2 = 0) : Ev (fun k => atriumref04_Unhex.f k s) (Sha.decRes (Sha.decG 4 Sha.hl s.data.toList 0 0)) := by
  simp only [atriumref04_Unhex.f]
  refine evIfPos (by omega) ?_
  have h := evUnhexL s hs (s.size / 2) 0 [] (by omega) (Nat.zero_le _)
  have e : resH [] (Sha.decG 4 Sha.hl (s.data.toList.drop 0) 0 0) = Sha.decRes (Sha.decG 4 Sha.hl s.data.toList 0 0) := by
    rw [List.drop_zero]
    cases Sha.decG 4 Sha.hl s.data.toList 0 0 <;> simp [resH, Sha.decRes]
  rw [e] at h
  exact h
theorem evUnhexOdd (s : ByteArray) (he : s.size % 2 ≠ 0) : Ev (fun k => atriumref04_Unhex.f k s) (⟨#[]⟩, false) := by
  simp only [atriumref04_Unhex.f]
  exact evIfNeg (by omega) (Ev.now _)

/-! ### Base64 -/
theorem shl_one : ∀ k : Nat, k ≤ 13 → shl .i64 1 (k : Int) = (2 : Int) ^ k := by decide +kernel
theorem wrap_pow : ∀ k : Nat, k ≤ 13 → wrap64 ((2 : Int) ^ k) = (2 : Int) ^ k := by decide +kernel
theorem and_shl (n k : Nat) (hn : n < 16384) (hk : k ≤ 13) : Go.bits .and .i64 (n : Int) (wrap64 (shl .i64 1 (k : Int) - 1)) = ((n % 2 ^ k : Nat) : Int) := by
  rw [shl_one k hk, ← wrap_pow k hk]
  exact Sha.and_low n k hn hk
theorem shr_nat (n k : Nat) (hk : k ≤ 13) : shr .i64 (n : Int) (k : Int) = ((n / 2 ^ k : Nat) : Int) := by
  show (n : Int) / 2 ^ min ((k : Int)).toNat 64 = _
  rw [Int.toNat_natCast, Nat.min_eq_left (by omega), Int.natCast_ediv, Int.natCast_pow]; rfl
theorem shl_nat (n k : Nat) (hn : n < 64) (hk : k ≤ 13) : shl .i64 (n : Int) (k : Int) = ((n * 2 ^ k : Nat) : Int) := by
  have h2 : (2 : Nat) ^ k ≤ 2 ^ 13 := Nat.pow_le_pow_right (by omega) hk
  have h3 : n * 2 ^ k ≤ 64 * 8192 := Nat.mul_le_mul (by omega) h2
  show IntKind.i64.wrap ((n : Int) * 2 ^ min ((k : Int)).toNat 64) = _
  rw [Int.toNat_natCast, Nat.min_eq_left (by omega), show (n : Int) * 2 ^ k = ((n * 2 ^ k : Nat) : Int) by rw [Int.natCast_mul, Int.natCast_pow]; rfl]
  exact IntWalk.i64_in _ (by omega)
theorem bt_let (q : Nat) (h : q < 64) : bt (⟨#[65, 66, 67, 68, 69, 70, 71, 72, 73, 74, 75, 76, 77, 78, 79, 80, 81, 82, 83, 84, 85, 86, 87, 88, 89, 90, 97, 98, 99, 100, 101, 102, 103, 104, 105, 106, 107, 108, 109, 110, 111, 112, 113, 114, 115, 116, 117, 118, 119, 120, 121, 122, 48, 49, 50, 51, 52, 53, 54, 55, 56, 57, 45, 95]⟩ : ByteArray) (q : Int) = ((Sha.ll.getD q 0).toNat : Int) := by
  show bt Sha.letters (q : Int) = _
  rw [bt_nat Sha.letters q h, List.getD_eq_getElem?_getD, Array.getElem?_toList, Array.getElem?_eq_getElem (show q < Sha.letters.data.size from h)]
  rfl
theorem pow_mul_lt {n h W : Nat} (hn : n < 2 ^ h) (hh : h ≤ W) : n * 2 ^ (W - h) < 2 ^ W := by
  refine Nat.lt_of_lt_of_eq (Nat.mul_lt_mul_of_pos_right hn (Nat.pow_pos (by omega))) ?_
  rw [← Nat.pow_add]
  congr 1
  omega
theorem pow_div_lt {n h : Nat} (hn : n < 2 ^ h) (hh : 6 ≤ h) : n / 2 ^ (h - 6) < 64 := by
  refine Nat.div_lt_of_lt_mul ?_
  rw [show (64 : Nat) = 2 ^ 6 from rfl, ← Nat.pow_add, Nat.sub_add_cancel hh]
  exact hn
def resB (acc : List UInt8) (d : List Nat) : ByteArray := ⟨(acc ++ Sha.letB Sha.letters d).toArray⟩
theorem resB_cons (acc : List UInt8) (q : Nat) (d : List Nat) : resB acc (q :: d) = resB (acc ++ [Sha.ll.getD q 0]) d := by
  have e : Sha.letB Sha.letters (q :: d) = Sha.ll.getD q 0 :: Sha.letB Sha.letters d := rfl
  unfold resB
  rw [e, List.append_assoc]; rfl
theorem evB64L1 (s : ByteArray) (i : Nat)
    (h0 : ∀ (acc : List UInt8) (n h : Nat), h < 6 → n < 2 ^ h → acc.length + (Sha.encI 6 (s.data.toList.drop (i + 1)) n h).length ≤ 140737488355328 → Ev (fun k => atriumref04_Base64.l0 k s (nm acc) (n : Int) (h : Int) (wrap64 ((i : Int) + 1))) (resB acc (Sha.encI 6 (s.data.toList.drop (i + 1)) n h))) :
    ∀ (f h n : Nat) (acc : List UInt8), h < f → h ≤ 13 → n < 2 ^ h → acc.length + (Sha.encI 6 (s.data.toList.drop (i + 1)) n h).length ≤ 140737488355328 → Ev (fun k => atriumref04_Base64.l1 k s (nm acc) (n : Int) (h : Int) (i : Int)) (resB acc (Sha.encI 6 (s.data.toList.drop (i + 1)) n h))
  | 0, h, n, acc, hf, _, _, _ => by omega
  | f + 1, h, n, acc, hf, hh, hn, hl => by
    have hnb : n < 16384 := Nat.lt_of_lt_of_le hn (Nat.pow_le_pow_right (n := 2) (j := 14) (by omega) (by omega))
    refine Ev.step (f := fun k => _) (fun k => by rw [atriumref04_Base64.l1]) ?_
    by_cases hge : 6 ≤ h
    · refine evIfPos (by omega) ?_
      rw [show wrap64 ((h : Int) - 6) = ((h - 6 : Nat) : Int) by rw [wrap64_id (by omega) (by omega)]; omega]
      have hq := pow_div_lt hn hge
      rw [shr_nat n (h - 6) (by omega), and_shl n (h - 6) hnb (by omega)]
      rw [Sha.encI_more (by omega) hge] at hl ⊢
      rw [List.length_cons] at hl
      obtain ⟨q, hqe⟩ : ∃ q, n / 2 ^ (h - 6) = q := ⟨_, rfl⟩
      rw [hqe] at hq ⊢
      refine evIfPos (by omega) ?_
      refine evIfPos (by omega) ?_
      refine evIfPos (by omega) ?_
      refine evIfPos (by rw [nm_len]; omega) ?_
      rw [bt_let q hq, nm_snoc, resB_cons]
      exact evB64L1 s i h0 f (h - 6) (n % 2 ^ (h - 6)) (acc ++ [Sha.ll.getD q 0]) (by omega) (by omega) (Nat.mod_lt _ (Nat.pow_pos (by omega))) (by rw [List.length_append, List.length_singleton]; omega)
    · refine evIfNeg (by omega) ?_
      exact h0 acc n h (by omega) hn hl
theorem evB64L (s : ByteArray) (hs : s.size ≤ 140737488351232) : ∀ (d i : Nat), i + d = s.size → ∀ (acc : List UInt8) (n h : Nat), h < 6 → n < 2 ^ h → acc.length + (Sha.encI 6 (s.data.toList.drop i) n h).length ≤ 140737488355328 → Ev (fun k => atriumref04_Base64.l0 k s (nm acc) (n : Int) (h : Int) (i : Int)) (resB acc (Sha.encI 6 (s.data.toList.drop i) n h))
  | 0, i, hi, acc, n, h, hh, hn, hl => by
    have hnb : n < 64 := Nat.lt_of_lt_of_le hn (Nat.pow_le_pow_right (n := 2) (j := 6) (by omega) (by omega))
    refine Ev.step (f := fun k => _) (fun k => by rw [atriumref04_Base64.l0]) ?_
    refine evIfNeg (by omega) ?_
    rw [drop_end s i (by omega), Sha.encI_end hh] at hl ⊢
    by_cases hp : 0 < h
    · rw [if_pos hp] at hl ⊢
      refine evIfPos (by omega) ?_
      rw [show wrap64 (6 - (h : Int)) = ((6 - h : Nat) : Int) by rw [wrap64_id (by omega) (by omega)]; omega]
      have hq := pow_mul_lt (W := 6) hn (by omega)
      rw [shl_nat n (6 - h) hnb (by omega)]
      obtain ⟨q, hqe⟩ : ∃ q, n * 2 ^ (6 - h) = q := ⟨_, rfl⟩
      rw [hqe] at hq ⊢
      rw [show (2 : Nat) ^ 6 = 64 from rfl] at hq
      refine evIfPos (by omega) ?_
      refine evIfPos (by omega) ?_
      refine evIfPos (by omega) ?_
      refine evIfPos (by rw [nm_len]; simp at hl; omega) ?_
      rw [bt_let q hq, nm_snoc, nm_str, resB_cons]
      have e : resB (acc ++ [Sha.ll.getD q 0]) [] = ⟨(acc ++ [Sha.ll.getD q 0]).toArray⟩ := by simp [resB, Sha.letB]
      rw [e]
      exact Ev.now _
    · rw [if_neg hp]
      refine evIfNeg (by omega) ?_
      rw [nm_str]
      have e : resB acc [] = ⟨acc.toArray⟩ := by simp [resB, Sha.letB]
      rw [e]
      exact Ev.now _
  | d + 1, i, hi, acc, n, h, hh, hn, hl => by
    have h1 : i < s.size := by omega
    have hnb : n < 64 := Nat.lt_of_lt_of_le hn (Nat.pow_le_pow_right (n := 2) (j := 6) (by omega) (by omega))
    have hc := s[i].toNat_lt
    refine Ev.step (f := fun k => _) (fun k => by rw [atriumref04_Base64.l0]) ?_
    refine evIfPos (by omega) ?_
    refine evIfPos (by omega) ?_
    rw [bt_nat s i h1]
    rw [drop_at s i h1, Sha.encI_next hh] at hl ⊢
    rw [show wrap64 (wrap64 ((n : Int) * 256) + wrap64 (s[i].toNat : Int)) = ((n * 256 + s[i].toNat : Nat) : Int) by
      rw [wrap64_id (x := (n : Int) * 256) (by omega) (by omega), wrap64_id (x := (s[i].toNat : Int)) (by omega) (by omega), wrap64_id (by omega) (by omega)]; omega]
    rw [show wrap64 ((h : Int) + 8) = ((h + 8 : Nat) : Int) by rw [wrap64_id (by omega) (by omega)]; omega]
    refine evB64L1 s i (fun acc n h a b c => ?_) 14 (h + 8) (n * 256 + s[i].toNat) acc (by omega) (by omega) (by rw [Nat.pow_add]; omega) hl
    rw [wrap64_succ (by omega)]
    exact evB64L s hs d (i + 1) (by omega) acc n h a b c
theorem evB64 (s : ByteArray) (hs : s.size ≤ 105553116266000) : Ev (fun k => atriumref04_Base64.f k s) ⟨(Sha.letB Sha.letters (Sha.b64L s.data.toList)).toArray⟩ := by
  simp only [atriumref04_Base64.f]
  have hlen : (Sha.b64L s.data.toList).length ≤ 140737488355328 := by
    rw [Sha.b64L_len, Array.length_toList]
    have : s.data.size = s.size := rfl
    omega
  have h := evB64L s (by omega) s.size 0 (by omega) [] 0 0 (by omega) (by omega) (by rw [List.drop_zero, Sha.enc6, List.length_nil]; omega)
  rw [List.drop_zero, Sha.enc6] at h
  have e : resB [] (Sha.b64L s.data.toList) = ⟨(Sha.letB Sha.letters (Sha.b64L s.data.toList)).toArray⟩ := by simp [resB]
  rw [e] at h
  exact h

/-! ### Unbase64 -/
def resU (s : ByteArray) (acc : List UInt8) (d : Option (List Nat)) (now have_ : Nat) : ByteArray × Bool := match d with
  | some d => if Sha.letB Sha.letters (Sha.b64L (acc ++ Sha.outS d now have_)) = s.data.toList then (⟨(acc ++ Sha.outS d now have_).toArray⟩, true) else (⟨#[]⟩, false)
  | none => (⟨#[]⟩, false)
theorem evUnL (s : ByteArray) (hs : s.size ≤ 140737488351232) : ∀ (m i : Nat), i + m = s.size → ∀ (acc : List UInt8) (n h : Nat), h < 8 → n < 2 ^ h → 8 * acc.length + h ≤ 6 * i → Ev (fun k => atriumref04_Unbase64.l0 k s (nm acc) (n : Int) (h : Int) (i : Int)) (resU s acc (Sha.digs (s.data.toList.drop i)) n h)
  | 0, i, hi, acc, n, h, hh, hn, hl => by
    refine Ev.step (f := fun k => _) (fun k => by rw [atriumref04_Unbase64.l0]) ?_
    refine evIfNeg (by omega) ?_
    rw [nm_str]
    refine Ev.bind (evB64 ⟨acc.toArray⟩ (by show acc.toArray.size ≤ _; rw [List.size_toArray]; omega)) ?_
    rw [drop_end s i (by omega)]
    have e : resU s acc (Sha.digs []) n h = if Sha.letB Sha.letters (Sha.b64L acc) = s.data.toList then (⟨acc.toArray⟩, true) else (⟨#[]⟩, false) := by
      simp [resU, Sha.digs, Sha.outS]
    rw [e]
    by_cases hq : Sha.letB Sha.letters (Sha.b64L acc) = s.data.toList
    · rw [if_pos hq]
      exact evIfPos (by rw [toList_inj]; exact data_inj hq) (Ev.now _)
    · rw [if_neg hq]
      refine evIfNeg (fun h2 => hq ?_) (Ev.now _)
      rw [toList_inj] at h2
      rw [← h2]
  | m + 1, i, hi, acc, n, h, hh, hn, hl => by
    have h1 : i < s.size := by omega
    have hnb : n < 128 := Nat.lt_of_lt_of_le hn (Nat.pow_le_pow_right (n := 2) (j := 7) (by omega) (by omega))
    refine Ev.step (f := fun k => _) (fun k => by rw [atriumref04_Unbase64.l0]) ?_
    refine evIfPos (by omega) ?_
    refine evIfPos (by omega) ?_
    rw [bt_nat s i h1, drop_at s i h1]
    refine Ev.bind (evFind Sha.letters s[i] (by decide)) ?_
    rcases Sha.ix_cases Sha.ll s[i] with e1 | ⟨x, e1, hx⟩
    · rw [Sha.digs_no _ e1]
      exact evIfPos e1 (Ev.now _)
    · refine evIfNeg (by rw [e1]; omega) ?_
      rw [Sha.ll_len] at hx
      rw [e1, Sha.digs_yes _ e1]
      rw [show wrap64 (wrap64 ((n : Int) * 64) + (x : Int)) = ((n * 64 + x : Nat) : Int) by
        rw [wrap64_id (x := (n : Int) * 64) (by omega) (by omega), wrap64_id (by omega) (by omega)]; omega]
      rw [show wrap64 ((h : Int) + 6) = ((h + 6 : Nat) : Int) by rw [wrap64_id (by omega) (by omega)]; omega]
      have hvb : n * 64 + x < 2 ^ (h + 6) := by
        rw [Nat.pow_add]; omega
      by_cases h8 : 8 ≤ h + 6
      · refine evIfPos (by omega) ?_
        rw [show wrap64 (((h + 6 : Nat) : Int) - 8) = ((h + 6 - 8 : Nat) : Int) by rw [wrap64_id (by omega) (by omega)]; omega]
        refine evIfPos (by omega) ?_
        refine evIfPos (by rw [nm_len]; omega) ?_
        rw [shr_nat _ _ (by omega), and_shl _ _ (by omega) (by omega), b8_int _ _ rfl, nm_snoc, wrap64_succ (by omega)]
        have ih := evUnL s hs m (i + 1) (by omega) (acc ++ [Sha.b8 ((n * 64 + x) / 2 ^ (h + 6 - 8))]) ((n * 64 + x) % 2 ^ (h + 6 - 8)) (h + 6 - 8) (by omega) (Nat.mod_lt _ (Nat.pow_pos (by omega))) (by rw [List.length_append, List.length_singleton]; omega)
        have e : resU s acc ((Sha.digs (s.data.toList.drop (i + 1))).map (x :: ·)) n h = resU s (acc ++ [Sha.b8 ((n * 64 + x) / 2 ^ (h + 6 - 8))]) (Sha.digs (s.data.toList.drop (i + 1))) ((n * 64 + x) % 2 ^ (h + 6 - 8)) (h + 6 - 8) := by
          cases Sha.digs (s.data.toList.drop (i + 1)) with
          | none => rfl
          | some d =>
            have eo : Sha.outS (x :: d) n h = Sha.b8 ((n * 64 + x) / 2 ^ (h + 6 - 8)) :: Sha.outS d ((n * 64 + x) % 2 ^ (h + 6 - 8)) (h + 6 - 8) := by rw [Sha.outS, if_pos h8]
            simp only [Option.map_some, resU]
            rw [eo]
            simp only [List.append_assoc, List.cons_append, List.nil_append]
        rw [e]
        exact ih
      · refine evIfNeg (by omega) ?_
        rw [wrap64_succ (by omega)]
        have ih := evUnL s hs m (i + 1) (by omega) acc (n * 64 + x) (h + 6) (by omega) hvb (by omega)
        have e : resU s acc ((Sha.digs (s.data.toList.drop (i + 1))).map (x :: ·)) n h = resU s acc (Sha.digs (s.data.toList.drop (i + 1))) (n * 64 + x) (h + 6) := by
          cases Sha.digs (s.data.toList.drop (i + 1)) with
          | none => rfl
          | some d =>
            have eo : Sha.outS (x :: d) n h = Sha.outS d (n * 64 + x) (h + 6) := by rw [Sha.outS, if_neg h8]
            simp only [Option.map_some, resU]
            rw [eo]
        rw [e]
        exact ih
theorem un_same (s : ByteArray) : resU s [] (Sha.digs s.data.toList) 0 0 = Sha.decRes (Sha.decG 6 Sha.ll s.data.toList 0 0) := by
  rw [Sha.dec6]
  cases hd : Sha.digs s.data.toList with
  | none => rfl
  | some d =>
    obtain ⟨e1, e2, e3⟩ := Sha.digs_let _ _ hd
    have hb := Sha.back6 d e2
    unfold Sha.decS
    simp only [resU, Option.bind_some, List.nil_append]
    by_cases hk : Sha.okS d 0 0 = true
    · rw [if_pos hk, if_pos (by rw [hb.2 hk, e1])]; rfl
    · rw [if_neg hk, if_neg]
      · rfl
      · intro h
        have h2 := Sha.let_digs (Sha.b64L (Sha.outS d 0 0)) (Sha.b64L_lt _)
        rw [h, hd] at h2
        injection h2 with h2
        exact hk (hb.1 h2.symm)
theorem evUn (s : ByteArray) (hs : s.size ≤ 140737488351232) : Ev (fun k => atriumref04_Unbase64.f k s) (Sha.decRes (Sha.decG 6 Sha.ll s.data.toList 0 0)) := by
  simp only [atriumref04_Unbase64.f]
  have h := evUnL s hs s.size 0 (by omega) [] 0 0 (by omega) (by omega) (by simp)
  rw [List.drop_zero, un_same] at h
  exact h
end Go.Proofs.Ytililaifppblhaa.Pure
namespace Go.Proofs.Ytililaifppblhaa.Pure
open Go Go.RowKit Go.Proofs.Ytililaifppblhaa Go.Proofs.Ytililaifppblhaa.PT Go.Proofs.YtililaifppblhaaW.PrintWords Go.Proofs.YtililaifppblhaaW.PrintLast
set_option linter.unusedVariables false
set_option linter.unusedSimpArgs false

def hexT (s : ByteArray) : ByteArray := ⟨(Sha.letB Sha.hexes (Sha.hexL s.data.toList)).toArray⟩
def b64T (s : ByteArray) : ByteArray := ⟨(Sha.letB Sha.letters (Sha.b64L s.data.toList)).toArray⟩
theorem hexT_data (s : ByteArray) : (hexT s).data.toList = Sha.letB Sha.hexes (Sha.hexL s.data.toList) := rfl
theorem b64T_data (s : ByteArray) : (b64T s).data.toList = Sha.letB Sha.letters (Sha.b64L s.data.toList) := rfl
theorem hexT_size (s : ByteArray) : (hexT s).size = 2 * s.size := by
  show (Sha.letB Sha.hexes (Sha.hexL s.data.toList)).toArray.size = _
  rw [List.size_toArray]
  unfold Sha.letB
  rw [List.length_map, Sha.hexL_len, Array.length_toList]; rfl
theorem b64T_size (s : ByteArray) : (b64T s).size = (4 * s.size + 2) / 3 := by
  show (Sha.letB Sha.letters (Sha.b64L s.data.toList)).toArray.size = _
  rw [List.size_toArray]
  unfold Sha.letB
  rw [List.length_map, Sha.b64L_len, Array.length_toList]; rfl
theorem macHex (s : ByteArray) (h : s.size ≤ 70368744177600) : mac_Hex.f s = some (hexT s) := by
  unfold mac_Hex.f
  have e : mac_groups.f s 4 Sha.hexes = some (hexT s) := by
    unfold mac_groups.f
    rw [if_pos ⟨⟨by omega, by rw [show (4 : Int).toNat = 4 from rfl, Sha.enc4, Sha.hexL_len, Array.length_toList]; show 2 * s.size ≤ _; omega⟩, .inl rfl, rfl⟩]
    rw [show (4 : Int).toNat = 4 from rfl, Sha.enc4]; rfl
  show (mac_groups.f s 4 Sha.hexes).bind _ = _
  rw [e]; rfl
theorem macB64 (s : ByteArray) (h : s.size ≤ 105553116266400) : mac_Base64.f s = some (b64T s) := by
  unfold mac_Base64.f
  have e : mac_groups.f s 6 Sha.letters = some (b64T s) := by
    unfold mac_groups.f
    rw [if_pos ⟨⟨by omega, by rw [show (6 : Int).toNat = 6 from rfl, Sha.enc6, Sha.b64L_len, Array.length_toList]; show (4 * s.size + 2) / 3 ≤ _; omega⟩, .inr rfl, rfl⟩]
    rw [show (6 : Int).toNat = 6 from rfl, Sha.enc6]; rfl
  show (mac_groups.f s 6 Sha.letters).bind _ = _
  rw [e]; rfl
theorem macUnhex (s : ByteArray) (h : s.size ≤ 140737488355328) (he : s.size % 2 = 0) : mac_Unhex.f s = some (Sha.decRes (Sha.decG 4 Sha.hl s.data.toList 0 0)) := by
  unfold mac_Unhex.f
  have e : mac_ungrouped.f s 4 Sha.hexes = some (Sha.decRes (Sha.decG 4 Sha.hl s.data.toList 0 0)) := by
    unfold mac_ungrouped.f
    rw [if_pos ⟨h, .inl rfl, rfl⟩]; rfl
  rw [if_pos (by omega)]
  show (mac_ungrouped.f s 4 Sha.hexes).bind _ = _
  rw [e]; rfl
theorem macUnhexOdd (s : ByteArray) (he : s.size % 2 ≠ 0) : mac_Unhex.f s = some (⟨#[]⟩, false) := by
  unfold mac_Unhex.f
  rw [if_neg (by omega)]
theorem macUn (s : ByteArray) (h : s.size ≤ 140737488355328) : mac_Unbase64.f s = some (Sha.decRes (Sha.decG 6 Sha.ll s.data.toList 0 0)) := by
  unfold mac_Unbase64.f
  have e : mac_ungrouped.f s 6 Sha.letters = some (Sha.decRes (Sha.decG 6 Sha.ll s.data.toList 0 0)) := by
    unfold mac_ungrouped.f
    rw [if_pos ⟨h, .inr rfl, rfl⟩]; rfl
  show (mac_ungrouped.f s 6 Sha.letters).bind _ = _
  rw [e]; rfl
theorem dec6_back (l : List UInt8) : Sha.decG 6 Sha.ll (Sha.letB Sha.letters (Sha.b64L l)) 0 0 = some l := by
  rw [Sha.dec6, Sha.let_digs _ (Sha.b64L_lt l)]
  unfold Sha.decS
  obtain ⟨h1, h2⟩ := Sha.out_b64 l
  simp only [Option.bind_some]
  rw [if_pos h2, h1]
theorem MacTexts : ∀ (a0 : ByteArray), a0.size ≤ 1048576 → ∃ k, atriumlaw04_MacTexts.f k a0 = some true := by
  intro a0 h0
  apply Ev.rounds
  simp only [atriumlaw04_MacTexts.f]
  have hh := hexT_size a0
  have hb := b64T_size a0
  refine evBindc (macHex a0 (by omega)) ?_
  refine evBindc (macUnhex (hexT a0) (by omega) (by omega)) ?_
  refine evBindc (macB64 a0 (by omega)) ?_
  refine evBindc (macUn (b64T a0) (by omega)) ?_
  rw [hexT_data, b64T_data, Sha.dec4_back, dec6_back]
  refine evBindc (a := true) rfl ?_
  refine evIfPos rfl ?_
  refine evBindc (macHex a0 (by omega)) ?_
  refine evBindc (a := hexT a0) (if_pos (by omega)) ?_
  refine evIfPos rfl ?_
  refine evBindc (macB64 a0 (by omega)) ?_
  refine Ev.bind (evB64 a0 (by omega)) ?_
  refine evIfPos rfl ?_
  refine evIfPos rfl ?_
  refine evIfPos rfl ?_
  refine evIfPos rfl ?_
  refine evIfPos rfl ?_
  refine evBindc (macB64 a0 (by omega)) ?_
  have e : ((b64T a0).size : Int) == wrap64 (Int.tdiv (wrap64 ((wrap64 (4 * (a0.size : Int))) + 2)) 3) := by
    rw [wrap64_id (x := 4 * (a0.size : Int)) (by omega) (by omega), wrap64_id (x := 4 * (a0.size : Int) + 2) (by omega) (by omega), Int.tdiv_eq_ediv_of_nonneg (by omega), wrap64_id (by omega) (by omega), hb, beq_iff_eq]
    omega
  show Ev (fun _ => some (((b64T a0).size : Int) == wrap64 (Int.tdiv (wrap64 ((wrap64 (4 * (a0.size : Int))) + 2)) 3))) true
  rw [e]
  exact Ev.now _
theorem texts_walk (a0 : ByteArray) (w : World) (h0 : a0.size ≤ 1048576) : Calls Try.prog 9 #[.string a0] w fun e w' => e = .returned (.bool true) ∧ Below w.heap.size w w' := by
  obtain ⟨k, hk⟩ := MacTexts a0 h0
  exact atriumlaw04_MacTexts.calls k a0 true w hk
end Go.Proofs.Ytililaifppblhaa.Pure
