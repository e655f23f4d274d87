/- Plain laws of CredTokens, over the print of that law alone. -/
import Derived.Test.YtehnpmkfgdmmmaaPTx
import Derived.Test.YtehnpmkfgdmmmaaMcD
namespace Go.Proofs.Ytehnpmkfgdmmmaa.Pure
open Go Go.RowKit Go.Proofs.Ytehnpmkfgdmmmaa Go.Proofs.Ytehnpmkfgdmmmaa.PT Go.Proofs.YtehnpmkfgdmmmaaW.PrintWords Go.Proofs.YtehnpmkfgdmmmaaW.PrintLast
set_option linter.unusedVariables false
set_option linter.unusedSimpArgs false

theorem sumF (s : ByteArray) (h : s.size ≤ 1152921504606846976) : mac_Sum.f s = some (sumT s) := if_pos h
theorem rsumF (s : ByteArray) (h : s.size ≤ 140737488354900) : atriumref04_Sum.f s = some (sumT s) := if_pos h
theorem turnedL_size (K : ByteArray) (c : UInt8) (h : K.size ≤ 64) : (⟨(Sha.turnedL K.data.toList c).toArray⟩ : ByteArray).size = 64 := by
  show (Sha.turnedL K.data.toList c).toArray.size = 64
  rw [List.size_toArray]
  unfold Sha.turnedL
  rw [List.length_map, Sha.key64_len _ (by rw [Array.length_toList]; exact h)]
theorem mac_j0 (K text : ByteArray) (hK : K.size ≤ 64) (ht : text.size ≤ 1152921504606846000) (k : Nat) :
    mac_Mac.j0 (k + 1) K text = some (sumT (⟨(Sha.turnedL K.data.toList 92).toArray⟩ ++ sumT (⟨(Sha.turnedL K.data.toList 54).toArray⟩ ++ text))) := by
  have e1 : mac_turned.f K 92 = some ⟨(Sha.turnedL K.data.toList 92).toArray⟩ := if_pos ⟨hK, by omega, by omega⟩
  have e2 : mac_turned.f K 54 = some ⟨(Sha.turnedL K.data.toList 54).toArray⟩ := if_pos ⟨hK, by omega, by omega⟩
  have s1 := turnedL_size K 92 hK
  have s2 := turnedL_size K 54 hK
  rw [mac_Mac.j0, e1, e2]
  generalize (⟨(Sha.turnedL K.data.toList 92).toArray⟩ : ByteArray) = O at *
  generalize (⟨(Sha.turnedL K.data.toList 54).toArray⟩ : ByteArray) = I at *
  simp only [Option.bind_some]
  rw [if_pos (by omega), sumF _ (by rw [ByteArray.size_append]; omega)]
  simp only [Option.bind_some]
  rw [if_pos (by rw [sumT_size]; omega), sumF _ (by rw [ByteArray.size_append, sumT_size]; omega)]
  rfl
theorem macF (key text : ByteArray) (hk : key.size ≤ 1152921504606846976) (ht : text.size ≤ 1152921504606846000) (k : Nat) : mac_Mac.f (k + 1) key text = some (Sha.macT key text) := by
  unfold mac_Mac.f Sha.macT Sha.keyOf
  by_cases h : key.size ≤ 64
  · rw [if_neg (by omega), if_pos h, mac_j0 key text h ht]
  · rw [if_pos (by omega), if_neg h, sumF key hk]
    simp only [Option.bind_some]
    rw [mac_j0 _ text (by rw [sumT_size]; omega) ht]
theorem evMac (key text : ByteArray) (hk : key.size ≤ 1152921504606846976) (ht : text.size ≤ 1152921504606846000) : Ev (fun k => mac_Mac.f k key text) (Sha.macT key text) :=
  ⟨1, fun k hk' => by obtain ⟨m, rfl⟩ : ∃ m, k = m + 1 := ⟨k - 1, by omega⟩; exact macF key text hk ht m⟩
theorem rmacF (key text : ByteArray) (hk : key.size ≤ 140737488354900) (ht : text.size ≤ 140737488354800) : atriumref04_Mac.f key text = some (Sha.macT key text) := if_pos ⟨hk, ht⟩
theorem macT_size (key text : ByteArray) : (Sha.macT key text).size = 32 := sumT_size _

theorem evFindL (al : ByteArray) (c : UInt8) (ha : al.size ≤ 100) : ∀ (d j : Nat), j + d = al.size → Ev (fun k => atriumref04_find.l0 k al (c.toNat : Int) (j : Int)) (if Lib.indexByte (al.data.toList.drop j) c < 0 then -1 else (j : Int) + Lib.indexByte (al.data.toList.drop j) c)
  | 0, j, h => by
    have e : al.data.toList.drop j = [] := List.drop_eq_nil_of_le (by rw [Array.length_toList]; show al.size ≤ j; omega)
    rw [e, if_pos (show Lib.indexByte [] c < 0 by show (-1 : Int) < 0; omega)]
    refine Ev.step (f := fun k => _) (fun k => by rw [atriumref04_find.l0]) ?_
    exact evIfNeg (by omega) (Ev.now _)
  | d + 1, j, h => by
    have hj : j < al.size := by omega
    have e : al.data.toList.drop j = al[j] :: al.data.toList.drop (j + 1) := by
      rw [List.drop_eq_getElem_cons (by rw [Array.length_toList]; exact hj)]; rfl
    have ih := evFindL al c ha d (j + 1) (by omega)
    have hge := Lib.indexByte_ge (al.data.toList.drop (j + 1)) c
    refine Ev.step (f := fun k => _) (fun k => by rw [atriumref04_find.l0]) ?_
    refine evIfPos (by omega) ?_
    refine evIfPos (by omega) ?_
    rw [bt_nat al j hj, e]
    by_cases hb : al[j] = c
    · refine evIfPos (by rw [hb]) ?_
      have e2 : Lib.indexByte (al[j] :: al.data.toList.drop (j + 1)) c = 0 := by unfold Lib.indexByte; rw [if_pos (by simp [hb])]
      rw [e2, if_neg (by decide), Int.add_zero]
      exact Ev.now _
    · refine evIfNeg (fun h2 => hb (UInt8.toNat_inj.1 (by omega))) ?_
      rw [wrap64_succ (by omega)]
      have e2 : (if Lib.indexByte (al[j] :: al.data.toList.drop (j + 1)) c < 0 then -1 else (j : Int) + Lib.indexByte (al[j] :: al.data.toList.drop (j + 1)) c) = (if Lib.indexByte (al.data.toList.drop (j + 1)) c < 0 then -1 else ((j + 1 : Nat) : Int) + Lib.indexByte (al.data.toList.drop (j + 1)) c) := by
        rw [show Lib.indexByte (al[j] :: al.data.toList.drop (j + 1)) c = if Lib.indexByte (al.data.toList.drop (j + 1)) c == -1 then -1 else Lib.indexByte (al.data.toList.drop (j + 1)) c + 1 by
          rw [Lib.indexByte, if_neg (by simpa using hb)]]
        generalize Lib.indexByte (al.data.toList.drop (j + 1)) c = m at *
        by_cases h1 : m = -1
        · subst h1; rfl
        · have h2 : (m == -1) = false := by simpa using h1
          rw [h2]
          simp only [Bool.false_eq_true, if_false]
          rw [if_neg (by omega), if_neg (by omega)]
          omega
      rw [e2]
      exact ih
theorem evFind (al : ByteArray) (c : UInt8) (ha : al.size ≤ 100) : Ev (fun k => atriumref04_find.f k al (c.toNat : Int)) (Lib.indexByte al.data.toList c) := by
  have h := evFindL al c ha al.size 0 (by omega)
  rw [List.drop_zero] at h
  have hge := Lib.indexByte_ge al.data.toList c
  have e : (if Lib.indexByte al.data.toList c < 0 then -1 else ((0 : Nat) : Int) + Lib.indexByte al.data.toList c) = Lib.indexByte al.data.toList c := by
    split <;> omega
  rw [e] at h
  exact h
/-- Bytes as the print's numbers. -/
def nm (l : List UInt8) : List Int := l.map fun c => (c.toNat : Int)
theorem nm_len (l : List UInt8) : (nm l).length = l.length := List.length_map _
theorem nm_snoc (l : List UInt8) (c : UInt8) : nm l ++ [(c.toNat : Int)] = nm (l ++ [c]) := by unfold nm; rw [List.map_append]; rfl
theorem nm_str (l : List UInt8) : strOfNums (nm l) = ⟨l.toArray⟩ := row_str l
theorem b8_int (x : Int) (n : Nat) (h : x = (n : Int)) : x % 256 = ((Sha.b8 n).toNat : Int) := by rw [Sha.b8_nat, h]; omega
theorem drop_at (s : ByteArray) (i : Nat) (h : i < s.size) : s.data.toList.drop i = s[i] :: s.data.toList.drop (i + 1) := by
  rw [List.drop_eq_getElem_cons (by rw [Array.length_toList]; exact h)]; rfl
theorem drop_end (s : ByteArray) (i : Nat) (h : s.size ≤ i) : s.data.toList.drop i = [] := List.drop_eq_nil_of_le (by rw [Array.length_toList]; exact h)

/-! ### Base64 -/
theorem shl_one : ∀ k : Nat, k ≤ 13 → shl .i64 1 (k : Int) = (2 : Int) ^ k := by decide +kernel
theorem wrap_pow : ∀ k : Nat, k ≤ 13 → wrap64 ((2 : Int) ^ k) = (2 : Int) ^ k := by decide +kernel
theorem and_shl (n k : Nat) (hn : n < 16384) (hk : k ≤ 13) : Go.bits .and .i64 (n : Int) (wrap64 (shl .i64 1 (k : Int) - 1)) = ((n % 2 ^ k : Nat) : Int) := by
  rw [shl_one k hk, ← wrap_pow k hk]
  exact Sha.and_low n k hn hk
theorem shr_nat (n k : Nat) (hk : k ≤ 13) : shr .i64 (n : Int) (k : Int) = ((n / 2 ^ k : Nat) : Int) := by
  show (n : Int) / 2 ^ min ((k : Int)).toNat 64 = _
  rw [Int.toNat_natCast, Nat.min_eq_left (by omega), Int.natCast_ediv, Int.natCast_pow]; rfl
theorem shl_nat (n k : Nat) (hn : n < 64) (hk : k ≤ 13) : shl .i64 (n : Int) (k : Int) = ((n * 2 ^ k : Nat) : Int) := by
  have h2 : (2 : Nat) ^ k ≤ 2 ^ 13 := Nat.pow_le_pow_right (by omega) hk
  have h3 : n * 2 ^ k ≤ 64 * 8192 := Nat.mul_le_mul (by omega) h2
  show IntKind.i64.wrap ((n : Int) * 2 ^ min ((k : Int)).toNat 64) = _
  rw [Int.toNat_natCast, Nat.min_eq_left (by omega), show (n : Int) * 2 ^ k = ((n * 2 ^ k : Nat) : Int) by rw [Int.natCast_mul, Int.natCast_pow]; rfl]
  exact IntWalk.i64_in _ (by omega)
theorem bt_let (q : Nat) (h : q < 64) : bt (⟨#[65, 66, 67, 68, 69, 70, 71, 72, 73, 74, 75, 76, 77, 78, 79, 80, 81, 82, 83, 84, 85, 86, 87, 88, 89, 90, 97, 98, 99, 100, 101, 102, 103, 104, 105, 106, 107, 108, 109, 110, 111, 112, 113, 114, 115, 116, 117, 118, 119, 120, 121, 122, 48, 49, 50, 51, 52, 53, 54, 55, 56, 57, 45, 95]⟩ : ByteArray) (q : Int) = ((Sha.ll.getD q 0).toNat : Int) := by
  show bt Sha.letters (q : Int) = _
  rw [bt_nat Sha.letters q h, List.getD_eq_getElem?_getD, Array.getElem?_toList, Array.getElem?_eq_getElem (show q < Sha.letters.data.size from h)]
  rfl
theorem pow_mul_lt {n h W : Nat} (hn : n < 2 ^ h) (hh : h ≤ W) : n * 2 ^ (W - h) < 2 ^ W := by
  refine Nat.lt_of_lt_of_eq (Nat.mul_lt_mul_of_pos_right hn (Nat.pow_pos (by omega))) ?_
  rw [← Nat.pow_add]
  congr 1
  omega
theorem pow_div_lt {n h : Nat} (hn : n < 2 ^ h) (hh : 6 ≤ h) : n / 2 ^ (h - 6) < 64 := by
  refine Nat.div_lt_of_lt_mul ?_
  rw [show (64 : Nat) = 2 ^ 6 from rfl, ← Nat.pow_add, Nat.sub_add_cancel hh]
  exact hn
def resB (acc : List UInt8) (d : List Nat) : ByteArray := ⟨(acc ++ Sha.letB Sha.letters d).toArray⟩
theorem resB_cons (acc : List UInt8) (q : Nat) (d : List Nat) : resB acc (q :: d) = resB (acc ++ [Sha.ll.getD q 0]) d := by
  have e : Sha.letB Sha.letters (q :: d) = Sha.ll.getD q 0 :: Sha.letB Sha.letters d := rfl
  unfold resB
  rw [e, List.append_assoc]; rfl
theorem evB64L1 (s : ByteArray) (i : Nat)
    (h0 : ∀ (acc : List UInt8) (n h : Nat), h < 6 → n < 2 ^ h → acc.length + (Sha.encI 6 (s.data.toList.drop (i + 1)) n h).length ≤ 140737488355328 → Ev (fun k => atriumref04_Base64.l0 k s (nm acc) (n : Int) (h : Int) (wrap64 ((i : Int) + 1))) (resB acc (Sha.encI 6 (s.data.toList.drop (i + 1)) n h))) :
    ∀ (f h n : Nat) (acc : List UInt8), h < f → h ≤ 13 → n < 2 ^ h → acc.length + (Sha.encI 6 (s.data.toList.drop (i + 1)) n h).length ≤ 140737488355328 → Ev (fun k => atriumref04_Base64.l1 k s (nm acc) (n : Int) (h : Int) (i : Int)) (resB acc (Sha.encI 6 (s.data.toList.drop (i + 1)) n h))
  | 0, h, n, acc, hf, _, _, _ => by omega
  | f + 1, h, n, acc, hf, hh, hn, hl => by
    have hnb : n < 16384 := Nat.lt_of_lt_of_le hn (Nat.pow_le_pow_right (n := 2) (j := 14) (by omega) (by omega))
    refine Ev.step (f := fun k => _) (fun k => by rw [atriumref04_Base64.l1]) ?_
    by_cases hge : 6 ≤ h
    · refine evIfPos (by omega) ?_
      rw [show wrap64 ((h : Int) - 6) = ((h - 6 : Nat) : Int) by rw [wrap64_id (by omega) (by omega)]; omega]
      have hq := pow_div_lt hn hge
      rw [shr_nat n (h - 6) (by omega), and_shl n (h - 6) hnb (by omega)]
      rw [Sha.encI_more (by omega) hge] at hl ⊢
      rw [List.length_cons] at hl
      obtain ⟨q, hqe⟩ : ∃ q, n / 2 ^ (h - 6) = q := ⟨_, rfl⟩
      rw [hqe] at hq ⊢
      refine evIfPos (by omega) ?_
      refine evIfPos (by omega) ?_
      refine evIfPos (by omega) ?_
      refine evIfPos (by rw [nm_len]; omega) ?_
      rw [bt_let q hq, nm_snoc, resB_cons]
      exact evB64L1 s i h0 f (h - 6) (n % 2 ^ (h - 6)) (acc ++ [Sha.ll.getD q 0]) (by omega) (by omega) (Nat.mod_lt _ (Nat.pow_pos (by omega))) (by rw [List.length_append, List.length_singleton]; omega)
    · refine evIfNeg (by omega) ?_
      exact h0 acc n h (by omega) hn hl
theorem evB64L (s : ByteArray) (hs : s.size ≤ 140737488351232) : ∀ (d i : Nat), i + d = s.size → ∀ (acc : List UInt8) (n h : Nat), h < 6 → n < 2 ^ h → acc.length + (Sha.encI 6 (s.data.toList.drop i) n h).length ≤ 140737488355328 → Ev (fun k => atriumref04_Base64.l0 k s (nm acc) (n : Int) (h : Int) (i : Int)) (resB acc (Sha.encI 6 (s.data.toList.drop i) n h))
  | 0, i, hi, acc, n, h, hh, hn, hl => by
    have hnb : n < 64 := Nat.lt_of_lt_of_le hn (Nat.pow_le_pow_right (n := 2) (j := 6) (by omega) (by omega))
    refine Ev.step (f := fun k => _) (fun k => by rw [atriumref04_Base64.l0]) ?_
    refine evIfNeg (by omega) ?_
    rw [drop_end s i (by omega), Sha.encI_end hh] at hl ⊢
    by_cases hp : 0 < h
    · rw [if_pos hp] at hl ⊢
      refine evIfPos (by omega) ?_
      rw [show wrap64 (6 - (h : Int)) = ((6 - h : Nat) : Int) by rw [wrap64_id (by omega) (by omega)]; omega]
      have hq := pow_mul_lt (W := 6) hn (by omega)
      rw [shl_nat n (6 - h) hnb (by omega)]
      obtain ⟨q, hqe⟩ : ∃ q, n * 2 ^ (6 - h) = q := ⟨_, rfl⟩
      rw [hqe] at hq ⊢
      rw [show (2 : Nat) ^ 6 = 64 from rfl] at hq
      refine evIfPos (by omega) ?_
      refine evIfPos (by omega) ?_
      refine evIfPos (by omega) ?_
      refine evIfPos (by rw [nm_len]; simp at hl; omega) ?_
      rw [bt_let q hq, nm_snoc, nm_str, resB_cons]
      have e : resB (acc ++ [Sha.ll.getD q 0]) [] = ⟨(acc ++ [Sha.ll.getD q 0]).toArray⟩ := by simp [resB, Sha.letB]
      rw [e]
      exact Ev.now _
    · rw [if_neg hp]
      refine evIfNeg (by omega) ?_
      rw [nm_str]
      have e : resB acc [] = ⟨acc.toArray⟩ := by simp [resB, Sha.letB]
      rw [e]
      exact Ev.now _
  | d + 1, i, hi, acc, n, h, hh, hn, hl => by
    have h1 : i < s.size := by omega
    have hnb : n < 64 := Nat.lt_of_lt_of_le hn (Nat.pow_le_pow_right (n := 2) (j := 6) (by omega) (by omega))
    have hc := s[i].toNat_lt
    refine Ev.step (f := fun k => _) (fun k => by rw [atriumref04_Base64.l0]) ?_
    refine evIfPos (by omega) ?_
    refine evIfPos (by omega) ?_
    rw [bt_nat s i h1]
    rw [drop_at s i h1, Sha.encI_next hh] at hl ⊢
    rw [show wrap64 (wrap64 ((n : Int) * 256) + wrap64 (s[i].toNat : Int)) = ((n * 256 + s[i].toNat : Nat) : Int) by
      rw [wrap64_id (x := (n : Int) * 256) (by omega) (by omega), wrap64_id (x := (s[i].toNat : Int)) (by omega) (by omega), wrap64_id (by omega) (by omega)]; omega]
    rw [show wrap64 ((h : Int) + 8) = ((h + 8 : Nat) : Int) by rw [wrap64_id (by omega) (by omega)]; omega]
    refine evB64L1 s i (fun acc n h a b c => ?_) 14 (h + 8) (n * 256 + s[i].toNat) acc (by omega) (by omega) (by rw [Nat.pow_add]; omega) hl
    rw [wrap64_succ (by omega)]
    exact evB64L s hs d (i + 1) (by omega) acc n h a b c
theorem evB64 (s : ByteArray) (hs : s.size ≤ 105553116266000) : Ev (fun k => atriumref04_Base64.f k s) ⟨(Sha.letB Sha.letters (Sha.b64L s.data.toList)).toArray⟩ := by
  simp only [atriumref04_Base64.f]
  have hlen : (Sha.b64L s.data.toList).length ≤ 140737488355328 := by
    rw [Sha.b64L_len, Array.length_toList]
    have : s.data.size = s.size := rfl
    omega
  have h := evB64L s (by omega) s.size 0 (by omega) [] 0 0 (by omega) (by omega) (by rw [List.drop_zero, Sha.enc6, List.length_nil]; omega)
  rw [List.drop_zero, Sha.enc6] at h
  have e : resB [] (Sha.b64L s.data.toList) = ⟨(Sha.letB Sha.letters (Sha.b64L s.data.toList)).toArray⟩ := by simp [resB]
  rw [e] at h
  exact h

/-! ### Unbase64 -/
def resU (s : ByteArray) (acc : List UInt8) (d : Option (List Nat)) (now have_ : Nat) : ByteArray × Bool := match d with
  | some d => if Sha.letB Sha.letters (Sha.b64L (acc ++ Sha.outS d now have_)) = s.data.toList then (⟨(acc ++ Sha.outS d now have_).toArray⟩, true) else (⟨#[]⟩, false)
  | none => (⟨#[]⟩, false)
theorem evUnL (s : ByteArray) (hs : s.size ≤ 140737488351232) : ∀ (m i : Nat), i + m = s.size → ∀ (acc : List UInt8) (n h : Nat), h < 8 → n < 2 ^ h → 8 * acc.length + h ≤ 6 * i → Ev (fun k => atriumref04_Unbase64.l0 k s (nm acc) (n : Int) (h : Int) (i : Int)) (resU s acc (Sha.digs (s.data.toList.drop i)) n h)
  | 0, i, hi, acc, n, h, hh, hn, hl => by
    refine Ev.step (f := fun k => _) (fun k => by rw [atriumref04_Unbase64.l0]) ?_
    refine evIfNeg (by omega) ?_
    rw [nm_str]
    refine Ev.bind (evB64 ⟨acc.toArray⟩ (by show acc.toArray.size ≤ _; rw [List.size_toArray]; omega)) ?_
    rw [drop_end s i (by omega)]
    have e : resU s acc (Sha.digs []) n h = if Sha.letB Sha.letters (Sha.b64L acc) = s.data.toList then (⟨acc.toArray⟩, true) else (⟨#[]⟩, false) := by
      simp [resU, Sha.digs, Sha.outS]
    rw [e]
    by_cases hq : Sha.letB Sha.letters (Sha.b64L acc) = s.data.toList
    · rw [if_pos hq]
      exact evIfPos (by rw [toList_inj]; exact data_inj hq) (Ev.now _)
    · rw [if_neg hq]
      refine evIfNeg (fun h2 => hq ?_) (Ev.now _)
      rw [toList_inj] at h2
      rw [← h2]
  | m + 1, i, hi, acc, n, h, hh, hn, hl => by
    have h1 : i < s.size := by omega
    have hnb : n < 128 := Nat.lt_of_lt_of_le hn (Nat.pow_le_pow_right (n := 2) (j := 7) (by omega) (by omega))
    refine Ev.step (f := fun k => _) (fun k => by rw [atriumref04_Unbase64.l0]) ?_
    refine evIfPos (by omega) ?_
    refine evIfPos (by omega) ?_
    rw [bt_nat s i h1, drop_at s i h1]
    refine Ev.bind (evFind Sha.letters s[i] (by decide)) ?_
    rcases Sha.ix_cases Sha.ll s[i] with e1 | ⟨x, e1, hx⟩
    · rw [Sha.digs_no _ e1]
      exact evIfPos e1 (Ev.now _)
    · refine evIfNeg (by rw [e1]; omega) ?_
      rw [Sha.ll_len] at hx
      rw [e1, Sha.digs_yes _ e1]
      rw [show wrap64 (wrap64 ((n : Int) * 64) + (x : Int)) = ((n * 64 + x : Nat) : Int) by
        rw [wrap64_id (x := (n : Int) * 64) (by omega) (by omega), wrap64_id (by omega) (by omega)]; omega]
      rw [show wrap64 ((h : Int) + 6) = ((h + 6 : Nat) : Int) by rw [wrap64_id (by omega) (by omega)]; omega]
      have hvb : n * 64 + x < 2 ^ (h + 6) := by
        rw [Nat.pow_add]; omega
      by_cases h8 : 8 ≤ h + 6
      · refine evIfPos (by omega) ?_
        rw [show wrap64 (((h + 6 : Nat) : Int) - 8) = ((h + 6 - 8 : Nat) : Int) by rw [wrap64_id (by omega) (by omega)]; omega]
        refine evIfPos (by omega) ?_
        refine evIfPos (by rw [nm_len]; omega) ?_
        rw [shr_nat _ _ (by omega), and_shl _ _ (by omega) (by omega), b8_int _ _ rfl, nm_snoc, wrap64_succ (by omega)]
        have ih := evUnL s hs m (i + 1) (by omega) (acc ++ [Sha.b8 ((n * 64 + x) / 2 ^ (h + 6 - 8))]) ((n * 64 + x) % 2 ^ (h + 6 - 8)) (h + 6 - 8) (by omega) (Nat.mod_lt _ (Nat.pow_pos (by omega))) (by rw [List.length_append, List.length_singleton]; omega)
        have e : resU s acc ((Sha.digs (s.data.toList.drop (i + 1))).map (x :: ·)) n h = resU s (acc ++ [Sha.b8 ((n * 64 + x) / 2 ^ (h + 6 - 8))]) (Sha.digs (s.data.toList.drop (i + 1))) ((n * 64 + x) % 2 ^ (h + 6 - 8)) (h + 6 - 8) := by
          cases Sha.digs (s.data.toList.drop (i + 1)) with
          | none => rfl
          | some d =>
            have eo : Sha.outS (x :: d) n h = Sha.b8 ((n * 64 + x) / 2 ^ (h + 6 - 8)) :: Sha.outS d ((n * 64 + x) % 2 ^ (h + 6 - 8)) (h + 6 - 8) := by rw [Sha.outS, if_pos h8]
            simp only [Option.map_some, resU]
            rw [eo]
            simp only [List.append_assoc, List.cons_append, List.nil_append]
        rw [e]
        exact ih
      · refine evIfNeg (by omega) ?_
        rw [wrap64_succ (by omega)]
        have ih := evUnL s hs m (i + 1) (by omega) acc (n * 64 + x) (h + 6) (by omega) hvb (by omega)
        have e : resU s acc ((Sha.digs (s.data.toList.drop (i + 1))).map (x :: ·)) n h = resU s acc (Sha.digs (s.data.toList.drop (i + 1))) (n * 64 + x) (h + 6) := by
          cases Sha.digs (s.data.toList.drop (i + 1)) with
          | none => rfl
          | some d =>
            have eo : Sha.outS (x :: d) n h = Sha.outS d (n * 64 + x) (h + 6) := by rw [Sha.outS, if_neg h8]
            simp only [Option.map_some, resU]
            rw [eo]
        rw [e]
        exact ih
theorem un_same (s : ByteArray) : resU s [] (Sha.digs s.data.toList) 0 0 = Sha.decRes (Sha.decG 6 Sha.ll s.data.toList 0 0) := by
  rw [Sha.dec6]
  cases hd : Sha.digs s.data.toList with
  | none => rfl
  | some d =>
    obtain ⟨e1, e2, e3⟩ := Sha.digs_let _ _ hd
    have hb := Sha.back6 d e2
    unfold Sha.decS
    simp only [resU, Option.bind_some, List.nil_append]
    by_cases hk : Sha.okS d 0 0 = true
    · rw [if_pos hk, if_pos (by rw [hb.2 hk, e1])]; rfl
    · rw [if_neg hk, if_neg]
      · rfl
      · intro h
        have h2 := Sha.let_digs (Sha.b64L (Sha.outS d 0 0)) (Sha.b64L_lt _)
        rw [h, hd] at h2
        injection h2 with h2
        exact hk (hb.1 h2.symm)
theorem evUn (s : ByteArray) (hs : s.size ≤ 140737488351232) : Ev (fun k => atriumref04_Unbase64.f k s) (Sha.decRes (Sha.decG 6 Sha.ll s.data.toList 0 0)) := by
  simp only [atriumref04_Unbase64.f]
  have h := evUnL s hs s.size 0 (by omega) [] 0 0 (by omega) (by omega) (by simp)
  rw [List.drop_zero, un_same] at h
  exact h
def hexT (s : ByteArray) : ByteArray := ⟨(Sha.letB Sha.hexes (Sha.hexL s.data.toList)).toArray⟩
def b64T (s : ByteArray) : ByteArray := ⟨(Sha.letB Sha.letters (Sha.b64L s.data.toList)).toArray⟩
theorem hexT_data (s : ByteArray) : (hexT s).data.toList = Sha.letB Sha.hexes (Sha.hexL s.data.toList) := rfl
theorem b64T_data (s : ByteArray) : (b64T s).data.toList = Sha.letB Sha.letters (Sha.b64L s.data.toList) := rfl
theorem hexT_size (s : ByteArray) : (hexT s).size = 2 * s.size := by
  show (Sha.letB Sha.hexes (Sha.hexL s.data.toList)).toArray.size = _
  rw [List.size_toArray]
  unfold Sha.letB
  rw [List.length_map, Sha.hexL_len, Array.length_toList]; rfl
theorem b64T_size (s : ByteArray) : (b64T s).size = (4 * s.size + 2) / 3 := by
  show (Sha.letB Sha.letters (Sha.b64L s.data.toList)).toArray.size = _
  rw [List.size_toArray]
  unfold Sha.letB
  rw [List.length_map, Sha.b64L_len, Array.length_toList]; rfl
theorem macHex (s : ByteArray) (h : s.size ≤ 70368744177600) : mac_Hex.f s = some (hexT s) := by
  unfold mac_Hex.f
  have e : mac_groups.f s 4 Sha.hexes = some (hexT s) := by
    unfold mac_groups.f
    rw [if_pos ⟨⟨by omega, by rw [show (4 : Int).toNat = 4 from rfl, Sha.enc4, Sha.hexL_len, Array.length_toList]; show 2 * s.size ≤ _; omega⟩, .inl rfl, rfl⟩]
    rw [show (4 : Int).toNat = 4 from rfl, Sha.enc4]; rfl
  show (mac_groups.f s 4 Sha.hexes).bind _ = _
  rw [e]; rfl
theorem macB64 (s : ByteArray) (h : s.size ≤ 105553116266400) : mac_Base64.f s = some (b64T s) := by
  unfold mac_Base64.f
  have e : mac_groups.f s 6 Sha.letters = some (b64T s) := by
    unfold mac_groups.f
    rw [if_pos ⟨⟨by omega, by rw [show (6 : Int).toNat = 6 from rfl, Sha.enc6, Sha.b64L_len, Array.length_toList]; show (4 * s.size + 2) / 3 ≤ _; omega⟩, .inr rfl, rfl⟩]
    rw [show (6 : Int).toNat = 6 from rfl, Sha.enc6]; rfl
  show (mac_groups.f s 6 Sha.letters).bind _ = _
  rw [e]; rfl
theorem macUn (s : ByteArray) (h : s.size ≤ 140737488355328) : mac_Unbase64.f s = some (Sha.decRes (Sha.decG 6 Sha.ll s.data.toList 0 0)) := by
  unfold mac_Unbase64.f
  have e : mac_ungrouped.f s 6 Sha.letters = some (Sha.decRes (Sha.decG 6 Sha.ll s.data.toList 0 0)) := by
    unfold mac_ungrouped.f
    rw [if_pos ⟨h, .inr rfl, rfl⟩]; rfl
  show (mac_ungrouped.f s 6 Sha.letters).bind _ = _
  rw [e]; rfl
theorem dec6_back (l : List UInt8) : Sha.decG 6 Sha.ll (Sha.letB Sha.letters (Sha.b64L l)) 0 0 = some l := by
  rw [Sha.dec6, Sha.let_digs _ (Sha.b64L_lt l)]
  unfold Sha.decS
  obtain ⟨h1, h2⟩ := Sha.out_b64 l
  simp only [Option.bind_some]
  rw [if_pos h2, h1]
theorem or8 (x y : UInt8) : Go.bits .or .u8 (x.toNat : Int) (y.toNat : Int) = ((x ||| y).toNat : Int) := by
  show IntKind.u8.wrap ((BitVec.ofInt 8 (x.toNat : Int) ||| BitVec.ofInt 8 (y.toNat : Int)).toNat : Int) = _
  rw [Sha.bv8, Sha.bv8]
  show ((x ||| y).toNat : Int) % 256 = _
  have := (x ||| y).toNat_lt
  omega
theorem or_zero (x y : UInt8) : x ||| y = 0 ↔ x = 0 ∧ y = 0 := by
  constructor
  · intro h
    have h' := congrArg UInt8.toNat h
    rw [UInt8.toNat_or] at h'
    have h2 : x.toNat ||| y.toNat = 0 := h'
    have hx : x.toNat ≤ x.toNat ||| y.toNat := Nat.left_le_or
    have hy : y.toNat ≤ x.toNat ||| y.toNat := Nat.right_le_or
    exact ⟨UInt8.toNat_inj.1 (by show x.toNat = 0; omega), UInt8.toNat_inj.1 (by show y.toNat = 0; omega)⟩
  · rintro ⟨rfl, rfl⟩; rfl
theorem xor_zero (x y : UInt8) : x ^^^ y = 0 ↔ x = y := by
  constructor
  · intro h
    have h2 : (x ^^^ y) ^^^ y = 0 ^^^ y := by rw [h]
    rw [UInt8.xor_assoc, UInt8.xor_self, UInt8.xor_zero, UInt8.zero_xor] at h2
    exact h2
  · rintro rfl
    exact UInt8.xor_self
/-- Equal's loop, from place i on. -/
theorem eqL (a b : ByteArray) (hab : a.size = b.size) (ha : a.size ≤ 140737488351232) :
    ∀ (d i : Nat) (p : UInt8), i + d = a.size → (p = 0 ↔ a.data.toList.take i = b.data.toList.take i) →
      Ev (fun k => mac_Equal.l0 k a b (p.toNat : Int) (a.size : Int) (i : Int)) (a.toList == b.toList)
  | 0, i, p, h, hp => by
    refine Ev.step (f := fun k => _) (fun k => by rw [mac_Equal.l0]) ?_
    refine evIfNeg (by omega) ?_
    have e : ((p.toNat : Int) == 0) = (a.toList == b.toList) := by
      rw [List.take_of_length_le (by rw [Array.length_toList]; show a.size ≤ i; omega), List.take_of_length_le (by rw [Array.length_toList]; show b.size ≤ i; omega)] at hp
      rw [Bool.eq_iff_iff, beq_iff_eq, beq_iff_eq, ByteArray.toList_eq, ByteArray.toList_eq, ← hp]
      constructor
      · intro h
        exact UInt8.toNat_inj.1 (by show p.toNat = 0; omega)
      · rintro rfl; rfl
    rw [e]
    exact Ev.now _
  | d + 1, i, p, h, hp => by
    have hi : i < a.size := by omega
    have hi2 : i < b.size := by omega
    obtain ⟨x, hx, tx, _⟩ := bt_nat' a i hi
    obtain ⟨y, hy, ty, _⟩ := bt_nat' b i hi2
    refine Ev.step (f := fun k => _) (fun k => by rw [mac_Equal.l0]) ?_
    refine evIfPos (by omega) ?_
    refine evIfPos (by omega) ?_
    refine evIfPos (by omega) ?_
    refine evIfPos (by omega) ?_
    rw [hx, hy, Sha.xor8, or8, wrap64_succ (by omega)]
    refine eqL a b hab ha d (i + 1) (p ||| (x ^^^ y)) (by omega) ?_
    rw [or_zero, xor_zero, hp, tx, ty]
    constructor
    · rintro ⟨h1, rfl⟩; rw [h1]
    · intro h1
      have h2 := List.append_inj h1 (by rw [List.length_take, List.length_take, Array.length_toList, Array.length_toList, show a.data.size = a.size from rfl, show b.data.size = b.size from rfl, hab])
      exact ⟨h2.1, by simpa using h2.2⟩
theorem evEq (a b : ByteArray) (ha : a.size ≤ 140737488351232) : Ev (fun k => mac_Equal.f k a b) (a.toList == b.toList) := by
  simp only [mac_Equal.f]
  by_cases h : a.size = b.size
  · refine evIfPos (by omega) ?_
    exact eqL a b h ha a.size 0 0 (by omega) (by simp)
  · refine evIfNeg (by omega) ?_
    have e : (a.toList == b.toList) = false := by
      rw [beq_eq_false_iff_ne]
      intro h2
      rw [toList_inj] at h2
      exact h (by rw [h2])
    rw [e]
    exact Ev.now _
def unT (s : ByteArray) : ByteArray × Bool := Sha.decRes (Sha.decG 6 Sha.ll s.data.toList 0 0)
theorem un_b64 (s : ByteArray) (h : (unT s).2 = true) : b64T (unT s).1 = s ∧ 8 * (unT s).1.size ≤ 6 * s.size := by
  unfold unT at h ⊢
  rw [Sha.dec6] at h ⊢
  cases hd : Sha.digs s.data.toList with
  | none => rw [hd] at h; cases h
  | some d =>
    obtain ⟨e1, e2, e3⟩ := Sha.digs_let _ _ hd
    rw [hd] at h
    unfold Sha.decS at h ⊢
    simp only [Option.bind_some] at h ⊢
    by_cases hk : Sha.okS d 0 0 = true
    · rw [if_pos hk]
      have hb := (Sha.back6 d e2).2 hk
      have hlen := Sha.outS_len d 0 0
      refine ⟨data_inj ?_, ?_⟩
      · show Sha.letB Sha.letters (Sha.b64L (Sha.outS d 0 0)) = _
        rw [hb, e1]
      · show 8 * (Sha.outS d 0 0).toArray.size ≤ _
        have e : s.data.toList.length = s.size := Array.length_toList
        rw [List.size_toArray]; omega
    · rw [if_neg hk] at h; cases h
theorem u64w {x : Int} (h : 0 ≤ x) (h' : x < 18446744073709551616) : IntKind.u64.wrap x = x := by
  show x % 18446744073709551616 = x
  omega
theorem bv_nat (m : Nat) (x : Nat) : BitVec.ofInt m (x : Int) = BitVec.ofNat m x := by
  apply BitVec.eq_of_toNat_eq
  rw [BitVec.toNat_ofInt, BitVec.toNat_ofNat]
  omega
theorem bits_or64 (x y : Nat) (hx : x < 18446744073709551616) (hy : y < 18446744073709551616) : Go.bits .or .u64 (x : Int) (y : Int) = ((x ||| y : Nat) : Int) := by
  show IntKind.u64.wrap ((BitVec.ofInt 64 (x : Int) ||| BitVec.ofInt 64 (y : Int)).toNat : Int) = _
  rw [bv_nat, bv_nat, BitVec.toNat_or, BitVec.toNat_ofNat, BitVec.toNat_ofNat, Nat.mod_eq_of_lt (by omega), Nat.mod_eq_of_lt (by omega)]
  have : x ||| y < 2 ^ 64 := Nat.or_lt_two_pow (by omega) (by omega)
  exact u64w (by omega) (by omega)

/-- Two numbers that share no bit. -/
theorem or_add (a b k : Nat) (ha : a < 2 ^ k) (hb : 2 ^ k * b + a < 18446744073709551616) : Go.bits .or .u64 ((2 ^ k * b : Nat) : Int) (a : Int) = ((2 ^ k * b + a : Nat) : Int) := by
  rw [bits_or64 _ _ (by omega) (by omega), Nat.two_pow_add_eq_or_of_lt ha]
theorem or_add' (a b k : Nat) (ha : a < 2 ^ k) (hb : 2 ^ k * b + a < 18446744073709551616) : Go.bits .or .u64 (a : Int) ((2 ^ k * b : Nat) : Int) = ((a + 2 ^ k * b : Nat) : Int) := by
  rw [bits_or64 _ _ (by omega) (by omega), Nat.or_comm, ← Nat.two_pow_add_eq_or_of_lt ha, Nat.add_comm]

theorem extract_rest (s : ByteArray) (p n : Nat) (h : p + n ≤ s.size) : (s.extract p s.size).extract 0 n = s.extract p (p + n) := by
  apply ByteArray.ext
  simp only [ByteArray.data_extract, Array.extract_extract]
  congr 1
  show min (p + n) s.size = p + n
  omega
theorem extract_rest2 (s : ByteArray) (p n : Nat) (h : p + n ≤ s.size) : (s.extract p s.size).extract n (s.extract p s.size).size = s.extract (p + n) s.size := by
  apply ByteArray.ext
  have : (s.extract p s.size).size = s.size - p := by simp [ByteArray.size_extract]
  rw [this]
  simp only [ByteArray.data_extract, Array.extract_extract]
  congr 1
  show min (p + (s.size - p)) s.size = s.size
  omega
theorem extract_size (s : ByteArray) (p : Nat) : (s.extract p s.size).size = s.size - p := by simp [ByteArray.size_extract]
theorem extract_all (s : ByteArray) : s.extract 0 s.size = s := by
  apply ByteArray.ext; simp
theorem strOfNums_size (l : List Int) : (strOfNums l).size = l.length := by
  have h : (strOfNums l).data.toList.length = l.length := by rw [strOfNums_data]; simp
  rw [Array.length_toList] at h
  exact h
/-! ### Numbers of bytes, the highest first -/
def beN (l : List Int) : Int := l.foldl (fun n c => n * 256 + c) 0
def IsBytes (l : List Int) : Prop := ∀ c ∈ l, 0 ≤ c ∧ c ≤ 255
theorem bytesOf_are (s : ByteArray) : IsBytes (bytesOf s) := by
  intro c hc
  simp only [bytesOf, List.mem_map] at hc
  obtain ⟨b, _, rfl⟩ := hc
  have := b.toNat_lt
  omega
theorem be_fold (l : List Int) : ∀ (n : Int) (j : Nat), IsBytes l → 0 ≤ n → n < 256 ^ j → 0 ≤ l.foldl (fun n c => n * 256 + c) n ∧ l.foldl (fun n c => n * 256 + c) n < 256 ^ (j + l.length) := by
  induction l with
  | nil => intro n j _ h0 h1; exact ⟨h0, h1⟩
  | cons c l ih =>
    intro n j hb h0 h1
    have hc := hb c (List.mem_cons_self ..)
    have h2 := ih (n * 256 + c) (j + 1) (fun x hx => hb x (List.mem_cons_of_mem _ hx)) (by omega) (by rw [Int.pow_succ]; omega)
    rw [List.length_cons, show j + (l.length + 1) = j + 1 + l.length by omega]
    exact h2
theorem be_range (l : List Int) (hb : IsBytes l) : 0 ≤ beN l ∧ beN l < 256 ^ l.length := by
  have h := be_fold l 0 0 hb (by decide) (by decide)
  rw [Nat.zero_add] at h
  exact h
theorem pow_le8 {j : Nat} (h : j ≤ 7) : (256 : Int) ^ j ≤ 72057594037927936 := by
  have : j = 0 ∨ j = 1 ∨ j = 2 ∨ j = 3 ∨ j = 4 ∨ j = 5 ∨ j = 6 ∨ j = 7 := by omega
  rcases this with rfl | rfl | rfl | rfl | rfl | rfl | rfl | rfl <;> decide
theorem or_byte (n c : Int) (h0 : 0 ≤ n) (h1 : n < 72057594037927936) (c0 : 0 ≤ c) (c1 : c ≤ 255) : Go.bits .or .u64 (IntKind.u64.wrap (n * 256)) (IntKind.u64.wrap c) = n * 256 + c := by
  rw [u64w (by omega) (by omega), u64w (by omega) (by omega)]
  obtain ⟨n, rfl⟩ := Int.eq_ofNat_of_zero_le h0
  obtain ⟨c, rfl⟩ := Int.eq_ofNat_of_zero_le c0
  have h := or_add c n 8 (by omega) (by omega)
  have e : ((2 ^ 8 * n : Nat) : Int) = (n : Int) * 256 := by omega
  rw [e] at h
  rw [h]; omega
theorem read_fold (l : List Int) : ∀ (n : Int) (j : Nat), IsBytes l → 0 ≤ n → n < 256 ^ j → j + l.length ≤ 8 →
    l.foldl (fun n c => Go.bits .or .u64 (IntKind.u64.wrap (n * 256)) (IntKind.u64.wrap c)) n = l.foldl (fun n c => n * 256 + c) n := by
  induction l with
  | nil => intro n j _ _ _ _; rfl
  | cons c l ih =>
    intro n j hb h0 h1 hj
    rw [List.length_cons] at hj
    have hc := hb c (List.mem_cons_self ..)
    have hp := pow_le8 (j := j) (by omega)
    simp only [List.foldl_cons]
    rw [or_byte n c h0 (by omega) hc.1 hc.2]
    exact ih (n * 256 + c) (j + 1) (fun x hx => hb x (List.mem_cons_of_mem _ hx)) (by omega) (by rw [Int.pow_succ]; omega) (by omega)
theorem read_be (l : List Int) (hb : IsBytes l) (h : l.length ≤ 8) : codec_Reader_read.n l = beN l := read_fold l 0 0 hb (by decide) (by decide) (by omega)

/-- The document's reading of bytes. -/
theorem ref_read_loop (s : ByteArray) (hs : s.size ≤ 8) (d : Nat) : ∀ i, i + d = s.size → Ev (fun k => atriumref02_Read.l0 k s (beN ((bytesOf s).take i)) (i : Int)) (beN (bytesOf s)) := by
  have hl := bytesOf_length s
  induction d with
  | zero =>
    intro i hi
    refine Ev.step (fun k => by simp only [atriumref02_Read.l0]; exact rfl) (evIfNeg (by omega) ?_)
    rw [List.take_of_length_le (by omega)]
    exact Ev.now _
  | succ d ih =>
    intro i hi
    have h1 := ih (i + 1) (by omega)
    have hbt := rd_bytesOf s (i : Int)
    have hr := bt_range s (i : Int)
    have hg : (bytesOf s)[i]'(by omega) = bt s (i : Int) := by
      rw [← hbt]; simp [rd, List.getD_eq_getElem?_getD, List.getElem?_eq_getElem (show i < (bytesOf s).length by omega)]
    rw [List.take_succ_eq_append_getElem (show i < (bytesOf s).length by omega), hg] at h1
    rw [show beN ((bytesOf s).take i ++ [bt s (i : Int)]) = beN ((bytesOf s).take i) * 256 + bt s (i : Int) by simp [beN]] at h1
    have hb := be_range ((bytesOf s).take i) (fun x hx => bytesOf_are s x (List.mem_of_mem_take hx))
    have hp := pow_le8 (j := ((bytesOf s).take i).length) (by rw [List.length_take]; omega)
    generalize beN ((bytesOf s).take i) = n at *
    refine Ev.step (fun k => by simp only [atriumref02_Read.l0]; exact rfl) (evIfPos (by omega) (evIfPos (by omega) ?_))
    rw [wrap64_succ (by omega), u64w (x := n * 256) (by omega) (by omega), u64w (x := bt s (i : Int)) (by omega) (by omega), u64w (by omega) (by omega)]
    exact h1
theorem ref_read (s : ByteArray) (hs : s.size ≤ 8) : Ev (fun k => atriumref02_Read.f k s) (beN (bytesOf s)) := ref_read_loop s hs s.size 0 (by omega)

/-! ### The Reader at a place of a text -/
theorem raw_at (s : ByteArray) (p n : Nat) (h : p + n ≤ s.size) : codec_Reader_Raw.f (s.extract p s.size) 0 (n : Int) = some (s.extract p (p + n), s.extract (p + n) s.size, 0) := by
  have hz := extract_size s p
  unfold codec_Reader_Raw.f
  rw [if_pos rfl, if_neg (by omega), if_neg (by omega), if_pos (by omega), if_pos (by omega), Int.toNat_natCast, extract_rest s p n h, extract_rest2 s p n h]
theorem read_at (s : ByteArray) (p n : Nat) (hn : n ≤ 8) (h : p + n ≤ s.size) : codec_Reader_read.f (s.extract p s.size) 0 (n : Int) = some (beN (bytesOf (s.extract p (p + n))), s.extract (p + n) s.size, 0) := by
  have hz : (s.extract p (p + n)).size = n := by simp only [ByteArray.size_extract]; omega
  unfold codec_Reader_read.f
  rw [raw_at s p n h, Option.bind_some]
  dsimp only
  rw [if_pos (by omega), read_be _ (bytesOf_are _) (by rw [bytesOf_length]; omega)]
theorem nb_bytes (n : Int) (k : Nat) : IsBytes (nb n k) := by
  induction k generalizing n with
  | zero => intro c hc; cases hc
  | succ k ih =>
    intro c hc
    simp only [nb, List.mem_append, List.mem_singleton] at hc
    rcases hc with hc | rfl
    · exact ih _ c hc
    · omega
theorem be_snoc (l : List Int) (c : Int) : beN (l ++ [c]) = beN l * 256 + c := by simp [beN]
theorem be_nb (k : Nat) : ∀ n : Int, 0 ≤ n → n < 256 ^ k → beN (nb n k) = n := by
  induction k with
  | zero => intro n h0 h1; simp [nb, beN] at *; omega
  | succ k ih =>
    intro n h0 h1
    rw [Int.pow_succ] at h1
    rw [nb, be_snoc, ih (n / 256) (by omega) (by omega)]
    omega
theorem bytes_back (l : List Int) (h : IsBytes l) : bytesOf (strOfNums l) = l := by
  rw [bytesOf, strOfNums_data, List.map_map]
  conv => rhs; rw [← List.map_id l]
  apply List.map_congr_left
  intro c hc
  have := h c hc
  simp only [Function.comp_def, id]
  obtain ⟨n, rfl⟩ := Int.eq_ofNat_of_zero_le this.1
  simp
  omega
theorem str_back (s : ByteArray) : strOfNums (bytesOf s) = s := by
  apply data_inj
  rw [strOfNums_data, bytesOf, List.map_map]
  conv => rhs; rw [← List.map_id s.data.toList]
  apply List.map_congr_left
  intro c hc
  simp
theorem str_append (a b : List Int) : strOfNums (a ++ b) = strOfNums a ++ strOfNums b := by
  apply data_inj
  simp [strOfNums_data]

theorem number_loop (x : Int) (hx : 0 ≤ x) (z : Nat) (hz : z ≤ 8) (j : Nat) : j ≤ z → Ev (fun k => atriumref02_Number.l0 k x (nb (x / 256 ^ j) (z - j)) ((j : Int) - 1)) (strOfNums (nb x z)) := by
  induction j with
  | zero =>
    intro _
    refine Ev.step (fun k => by simp only [atriumref02_Number.l0]; exact rfl) (evIfNeg (by omega) ?_)
    simp only [Int.pow_zero, Int.ediv_one, Nat.sub_zero]
    exact Ev.now _
  | succ j ih =>
    intro hj
    have h1 := ih (by omega)
    have hl := nb_length (x / 256 ^ (j + 1)) (z - (j + 1))
    have e1 : ((j + 1 : Nat) : Int) - 1 = (j : Int) := by omega
    have e2 : wrap64 (8 * (j : Int)) = 8 * (j : Int) := wrap64_id (by omega) (by omega)
    have e3 : wrap64 ((j : Int) - 1) = (j : Int) - 1 := wrap64_id (by omega) (by omega)
    rw [e1]
    refine Ev.step (fun k => by simp only [atriumref02_Number.l0]; exact rfl) (evIfPos (by omega) (evIfPos (by omega) (evIfPos (by omega) ?_)))
    have e4 : (shr .u64 x (8 * (j : Int))) % 256 = x / 256 ^ j % 256 := by
      have hp : (2 : Int) ^ (min (8 * (j : Int)).toNat 64) = 256 ^ j := by
        have : j = 0 ∨ j = 1 ∨ j = 2 ∨ j = 3 ∨ j = 4 ∨ j = 5 ∨ j = 6 ∨ j = 7 := by omega
        rcases this with rfl | rfl | rfl | rfl | rfl | rfl | rfl | rfl <;> decide
      show x / 2 ^ (min (8 * (j : Int)).toNat 64) % 256 = _
      rw [hp]
    have e5 : nb (x / 256 ^ j) (z - j) = nb (x / 256 ^ (j + 1)) (z - (j + 1)) ++ [x / 256 ^ j % 256] := by
      rw [show z - j = z - (j + 1) + 1 by omega, nb, Int.pow_succ, Int.ediv_ediv_of_nonneg (Int.pow_nonneg (by decide))]
    rw [e2, e3, e4, ← e5]
    exact h1
theorem number_ev (x : Int) (hx : 0 ≤ x) (z : Nat) (hz : z ≤ 8) : Ev (fun k => atriumref02_Number.f k x (z : Int)) (strOfNums (nb x z)) := by
  have h := number_loop x hx z hz z (Nat.le_refl _)
  rw [Nat.sub_self, nb] at h
  have e : wrap64 ((z : Int) - 1) = (z : Int) - 1 := wrap64_id (by omega) (by omega)
  refine Ev.congr (fun k => ?_) h
  unfold atriumref02_Number.f
  rw [e]

theorem ext_mid (t : ByteArray) (X Y Z : List UInt8) (p q : Nat) (h : t.data.toList = X ++ Y ++ Z) (hp : X.length = p) (hq : p + Y.length = q) : (t.extract p q).data.toList = Y := by
  rw [ByteArray.data_extract, Array.toList_extract, List.extract_eq_take_drop, h, List.append_assoc, List.drop_left' hp, List.take_left' (by omega)]

theorem ten_iff (t : S24) : tenOk t = true ↔ t.f0.data.toList.all okC = true ∧ 1 ≤ t.f0.size ∧ t.f0.size ≤ 32 ∧ 1 ≤ t.f1.size ∧ t.f1.size ≤ 64 ∧ 0 ≤ t.f2 ∧ t.f2 ≤ 1048576 := by
  unfold tenOk nameOk
  simp [and_assoc]
def about : ByteArray := ⟨#[116, 101, 110, 97, 110, 116, 58]⟩
def sufT (n key : ByteArray) : ByteArray := hexT (Sha.macT key (about ++ n))
theorem sufT_size (n key : ByteArray) : (sufT n key).size = 64 := by unfold sufT; rw [hexT_size, macT_size]
def mintT (t : S24) : ByteArray × Int := if tenOk t = true then ((t.f0 ++ ⟨#[46]⟩) ++ sufT t.f0 t.f1, 0) else (⟨#[]⟩, 1)
theorem mintT_size (t : S24) : (mintT t).1.size ≤ 97 := by
  unfold mintT
  split
  · rename_i h
    have := (ten_iff t).1 h
    show ((t.f0 ++ ⟨#[46]⟩) ++ sufT t.f0 t.f1).size ≤ 97
    rw [ByteArray.size_append, ByteArray.size_append, sufT_size]
    show t.f0.size + 1 + 64 ≤ 97
    omega
  · exact Nat.zero_le _
theorem evMint (t : S24) (hn : t.f0.size ≤ 140737488355328) : Ev (fun k => cred_Mint.f k t.f0 t.f1 t.f2) (mintT t) := by
  simp only [cred_Mint.f]
  refine evBindc (right_f t (by omega)) ?_
  unfold mintT
  cases hok : tenOk t with
  | false => exact evIfNeg (by decide) (Ev.now _)
  | true =>
    obtain ⟨_, h1, h2, h3, h4, _⟩ := (ten_iff t).1 hok
    refine evIfPos rfl ?_
    refine evIfPos (by omega) ?_
    refine evIfPos (by omega) ?_
    refine Ev.bind (evMac t.f1 (about ++ t.f0) (by omega) (by rw [ByteArray.size_append]; show 7 + _ ≤ _; omega)) ?_
    refine evBindc (macHex _ (by rw [macT_size]; omega)) ?_
    refine evIfPos (by rw [ByteArray.size_append, hexT_size, macT_size]; show t.f0.size + 1 + _ ≤ _; omega) ?_
    exact Ev.now _
theorem rd_get (l : List S24) (k : Nat) (h : k < l.length) : rd_T24 l (k : Int) = l[k] := by
  unfold rd_T24
  rw [Int.toNat_natCast, List.getD_eq_getElem?_getD, List.getElem?_eq_getElem h]; rfl
theorem checkF (l : List S24) (hl : ∀ t ∈ l, t.f0.size ≤ 140737488355328) : cred_Check.f l = some (chk l) := if_pos hl
theorem chk_two (l : List S24) : chk l = 0 ∨ chk l = 1 := by unfold chk; split <;> simp
theorem chk_len (l : List S24) (h : chk l = 0) : 1 ≤ l.length ∧ l.length ≤ 16 ∧ goodTo l l.length = true := by
  unfold chk at h
  split at h
  · assumption
  · cases h

/-! ### Verify -/
def verAt (l : List S24) (s : ByteArray) : Nat → Nat → Int × Int
  | 0, _ => (0, 210)
  | d + 1, i => if (mintT (rd_T24 l (i : Int))).1 = s then ((i : Int), 0) else verAt l s d (i + 1)
def verT (l : List S24) (s : ByteArray) : Int × Int := if chk l = 0 then verAt l s l.length 0 else (0, chk l)
theorem rd_mem (l : List S24) (k : Nat) (h : k < l.length) : rd_T24 l (k : Int) ∈ l := by
  rw [rd_get l k h]; exact List.getElem_mem _
theorem verL (l : List S24) (s : ByteArray) (hl : ∀ t ∈ l, t.f0.size ≤ 140737488355328) (h16 : l.length ≤ 16) : ∀ (d i : Nat), i + d = l.length → Ev (fun k => cred_Verify.l0 k s l (l.length : Int) (i : Int)) (verAt l s d i)
  | 0, i, h => by
    refine Ev.step (f := fun k => _) (fun k => by rw [cred_Verify.l0]) ?_
    exact evIfNeg (by omega) (Ev.now _)
  | d + 1, i, h => by
    refine Ev.step (f := fun k => _) (fun k => by rw [cred_Verify.l0]) ?_
    refine evIfPos (by omega) (evIfPos (by omega) (evIfPos (by omega) ?_))
    refine Ev.bind (evMint _ (hl _ (rd_mem l i (by omega)))) ?_
    refine Ev.bind (evEq _ s (Nat.le_trans (mintT_size _) (by omega))) ?_
    rw [verAt]
    by_cases hq : (mintT (rd_T24 l (i : Int))).1 = s
    · rw [if_pos hq]
      exact evIfPos (by rw [hq]; simp) (Ev.now _)
    · rw [if_neg hq]
      refine evIfNeg (fun h2 => hq (toList_inj.1 (by simpa using h2))) ?_
      rw [wrap64_succ (by omega)]
      exact verL l s hl h16 d (i + 1) (by omega)
theorem evVer (l : List S24) (s : ByteArray) (hl : ∀ t ∈ l, t.f0.size ≤ 140737488355328) : Ev (fun k => cred_Verify.f k l s) (verT l s) := by
  simp only [cred_Verify.f]
  refine evBindc (checkF l hl) ?_
  unfold verT
  by_cases h : chk l = 0
  · rw [if_pos h]
    refine evIfPos h ?_
    exact verL l s hl (chk_len l h).2.1 l.length 0 (by omega)
  · rw [if_neg h]
    exact evIfNeg h (Ev.now _)
def brr : List UInt8 := [98, 101, 97, 114, 101, 114]
theorem low_32 (c : UInt8) : lowB c = 32 ↔ c = 32 := by
  have h : ∀ c : UInt8, (lowB c == 32) = (c == 32) := by
    intro c
    have := List.all_eq_true.1 (show (List.range 256).all (fun n => (lowB (UInt8.ofNat n) == 32) == (UInt8.ofNat n == 32)) = true by decide +kernel) c.toNat (List.mem_range.2 c.toNat_lt)
    rw [UInt8.ofNat_toNat, beq_iff_eq] at this
    exact this
  have := h c
  constructor
  · intro e; rw [e] at this; simpa using this.symm
  · intro e; rw [e] at this; rw [e]; simpa using this
theorem ix_split : ∀ (l : List UInt8) (c : UInt8), (Lib.indexByte l c = -1 ∧ c ∉ l) ∨ ∃ pre post, l = pre ++ c :: post ∧ c ∉ pre ∧ Lib.indexByte l c = (pre.length : Int)
  | [], c => .inl ⟨rfl, by simp⟩
  | b :: l, c => by
    by_cases hb : b = c
    · subst hb
      exact .inr ⟨[], l, rfl, by simp, by unfold Lib.indexByte; rw [if_pos (by simp)]; rfl⟩
    · have hb2 : (b == c) = false := by simpa using hb
      rcases ix_split l c with ⟨h1, h2⟩ | ⟨pre, post, h1, h2, h3⟩
      · refine .inl ⟨?_, ?_⟩
        · unfold Lib.indexByte; rw [hb2, h1]; rfl
        · simp [h2, Ne.symm hb]
      · refine .inr ⟨b :: pre, post, by rw [h1]; rfl, by simp [h2, Ne.symm hb], ?_⟩
        unfold Lib.indexByte
        rw [hb2, h3]
        have : ((pre.length : Int) == -1) = false := by rw [beq_eq_false_iff_ne]; omega
        rw [this]
        simp
theorem split_one {pre q post r : List UInt8} {c : UInt8} (h : pre ++ c :: post = q ++ c :: r) (h1 : c ∉ pre) (h2 : c ∉ q) : pre = q := by
  have key : ∀ (p1 : List UInt8) (t : List UInt8), c ∉ p1 → Lib.indexByte (p1 ++ c :: t) c = (p1.length : Int) := by
    intro p1
    induction p1 with
    | nil => intro t _; unfold Lib.indexByte; rw [List.nil_append]; simp
    | cons b p1 ih =>
      intro t hn
      have hb : (b == c) = false := by rw [beq_eq_false_iff_ne]; intro e; exact hn (by simp [e])
      have := ih t (fun hm => hn (by simp [hm]))
      rw [List.cons_append]
      unfold Lib.indexByte
      rw [hb, this]
      have h3 : ((p1.length : Int) == -1) = false := by rw [beq_eq_false_iff_ne]; omega
      rw [h3]
      simp
  have e1 := key pre post h1
  have e2 := key q r h2
  rw [h, e2] at e1
  exact (List.append_inj h (by omega)).1
def bearT (s : ByteArray) : ByteArray × Int := if 8 ≤ s.size ∧ (s.data.toList.take 7).map lowB = brr ++ [32] then (s.extract 7 s.size, 0) else (⟨#[]⟩, 210)
theorem lowS_list (s : ByteArray) : (lowS s).toList = s.data.toList.map lowB := by rw [ByteArray.toList_eq]; rfl
theorem ext_list (s : ByteArray) (p q : Nat) : (s.extract p q).data.toList = (s.data.toList.drop p).take (q - p) := by
  rw [ByteArray.data_extract, Array.toList_extract, List.extract_eq_take_drop]
theorem len_data (s : ByteArray) : s.data.toList.length = s.size := Array.length_toList
theorem cut_bear (s : ByteArray) (hs : s.size ≤ 140737488355328) : cred_Bearer.f s = some (bearT s) := by
  unfold cred_Bearer.f strings_Cut.f
  have e : stringslite_Cut.f s (⟨#[32]⟩ : ByteArray) = some (cutB s 32) := if_pos ⟨rfl, by omega⟩
  rw [e]
  simp only [Option.bind_some]
  have hl := len_data s
  rcases ix_split s.data.toList 32 with ⟨h1, h2⟩ | ⟨pre, post, h1, h2, h3⟩
  · have ec : cutB s 32 = (s, ⟨#[]⟩, false) := by unfold cutB; rw [if_pos (by rw [h1]; decide)]
    rw [ec, if_neg (show ¬ ((s, (⟨#[]⟩ : ByteArray), false).2.2 = true) by simp)]
    unfold bearT
    rw [if_neg]
    rintro ⟨h8, hm⟩
    have h7 : s.data.toList.take 7 = (s.data.toList.take 6) ++ [s.data.toList[6]'(by omega)] := by
      rw [List.take_succ_eq_append_getElem (by omega)]
    rw [h7, List.map_append] at hm
    have := List.append_inj_right hm (by rw [List.length_map, List.length_take]; simp [brr]; omega)
    simp only [List.map_cons, List.map_nil, List.cons.injEq, and_true] at this
    rw [low_32] at this
    exact h2 (by rw [← this]; exact List.getElem_mem _)
  · have hpl : pre.length + 1 + post.length = s.size := by rw [← hl, h1]; simp; omega
    have ec : cutB s 32 = (s.extract 0 pre.length, s.extract (pre.length + 1) s.size, true) := by
      unfold cutB; rw [if_neg (by rw [h3]; omega), h3, Int.toNat_natCast]
    rw [ec, if_pos rfl]
    have el : text_Lower.f (s.extract 0 pre.length) = some (lowS (s.extract 0 pre.length)) := if_pos (by rw [ByteArray.size_extract]; omega)
    simp only [el, Option.bind_some]
    have ep : (lowS (s.extract 0 pre.length)).toList = pre.map lowB := by
      rw [lowS_list, ext_list, List.drop_zero, h1]
      simp
    rw [ep]
    have er : (s.extract (pre.length + 1) s.size).toList = post := by
      rw [ByteArray.toList_eq, ext_list]
      rw [h1, show pre ++ 32 :: post = (pre ++ [32]) ++ post by simp, List.drop_left' (by simp), List.take_of_length_le (by omega)]
    rw [er]
    unfold bearT
    by_cases hb : pre.map lowB = brr
    · have h6 : pre.length = 6 := by have := congrArg List.length hb; rw [List.length_map] at this; exact this
      rw [if_pos (show pre.map lowB = [98, 101, 97, 114, 101, 114] from hb)]
      have hm : (s.data.toList.take 7).map lowB = brr ++ [32] := by
        rw [h1, show pre ++ 32 :: post = (pre ++ [32]) ++ post by simp, List.take_left' (by simp; omega), List.map_append, hb]
        rfl
      by_cases hp : post = []
      · rw [if_pos hp, if_neg (by subst hp; simp at hpl; omega)]
      · rw [if_neg hp]
        have : 1 ≤ post.length := by cases post with
          | nil => exact absurd rfl hp
          | cons a b => simp
        rw [if_pos ⟨by omega, hm⟩, h6]
    · rw [if_neg (show ¬ pre.map lowB = [98, 101, 97, 114, 101, 114] from hb), if_neg]
      rintro ⟨h8, hm⟩
      have h7 : s.data.toList.take 7 = (s.data.toList.take 6) ++ [s.data.toList[6]'(by omega)] := by
        rw [List.take_succ_eq_append_getElem (by omega)]
      rw [h7, List.map_append] at hm
      have hi := List.append_inj hm (by rw [List.length_map, List.length_take]; simp [brr]; omega)
      have h32 := hi.2
      simp only [List.map_cons, List.map_nil, List.cons.injEq, and_true] at h32
      rw [low_32] at h32
      have hsp : s.data.toList = s.data.toList.take 6 ++ 32 :: s.data.toList.drop 7 := by
        conv => lhs; rw [← List.take_append_drop 7 s.data.toList, h7, h32]
        simp
      have hq : (32 : UInt8) ∉ s.data.toList.take 6 := by
        intro hm2
        have : lowB 32 ∈ (s.data.toList.take 6).map lowB := List.mem_map_of_mem hm2
        rw [hi.1] at this
        revert this
        decide
      have := split_one (h1.symm.trans hsp) h2 hq
      rw [this] at hb
      exact hb hi.1

/-! ### Who -/
def whoT (l : List S24) (vs : List ByteArray) : Int × Int :=
  if chk l = 0 then (if vs.length = 1 then (if (bearT (rdOf ByteArray.empty vs 0)).2 = 0 then verT l (bearT (rdOf ByteArray.empty vs 0)).1 else (0, (bearT (rdOf ByteArray.empty vs 0)).2)) else (0, 210)) else (0, chk l)
theorem rd0_size (vs : List ByteArray) (h : ∀ v ∈ vs, v.size ≤ 140737488355328) : (rdOf ByteArray.empty vs 0).size ≤ 140737488355328 := by
  cases vs with
  | nil => exact Nat.zero_le _
  | cons a vs => exact h a (by simp)
theorem evWho (l : List S24) (vs : List ByteArray) (hl : ∀ t ∈ l, t.f0.size ≤ 140737488355328) (hv : ∀ v ∈ vs, v.size ≤ 140737488355328) : Ev (fun k => cred_Who.f k l vs) (whoT l vs) := by
  simp only [cred_Who.f]
  refine evBindc (checkF l hl) ?_
  unfold whoT
  by_cases h : chk l = 0
  · rw [if_pos h]
    refine evIfPos h ?_
    by_cases h1 : vs.length = 1
    · rw [if_pos h1]
      refine evIfPos (by omega) (evIfPos (by omega) ?_)
      refine evBindc (cut_bear _ (rd0_size vs hv)) ?_
      by_cases hb : (bearT (rdOf ByteArray.empty vs 0)).2 = 0
      · rw [if_pos hb]
        refine evIfPos hb ?_
        exact Ev.bind (evVer l _ hl) (Ev.now _)
      · rw [if_neg hb]
        exact evIfNeg hb (Ev.now _)
    · rw [if_neg h1]
      exact evIfNeg (by omega) (Ev.now _)
  · rw [if_neg h]
    exact evIfNeg h (Ev.now _)
/-! ### Token -/
theorem tokT_b64 (n d : Int) : tokT n d = b64T (tokB n d) := rfl
theorem tokT_size (n d : Int) : (tokT n d).size = 22 := by rw [tokT_b64, b64T_size, tokB_size]
theorem tokF (n d : Int) (h0 : 0 ≤ n) (h1 : n ≤ 18446744073709551615) (h2 : 0 ≤ d) (h3 : d ≤ 18446744073709551615) : cred_Token.f n d = some (tokT n d) := if_pos ⟨h0, h1, h2, h3⟩

/-! ### lives -/
def acme : S24 := ⟨⟨#[97, 99, 109, 101]⟩, ⟨#[107]⟩, 3⟩
theorem acme_ok : tenOk acme = true := by decide
theorem acme_chk : chk [acme] = 0 := by
  unfold chk
  rw [if_pos]
  refine ⟨by decide, by decide, ?_⟩
  have : rd_T24 [acme] (0 : Int) = acme := rfl
  show (goodTo [acme] 0 && (tenOk (rd_T24 [acme] ((0 : Nat) : Int)) && !(names ([acme].take 0)).contains _)) = true
  rw [show rd_T24 [acme] ((0 : Nat) : Int) = acme from rfl, acme_ok]
  rfl
theorem evLives : Ev (fun k => atriumlaw21_lives.f k) true := by
  simp only [atriumlaw21_lives.f]
  refine evBindc (a := [acme]) rfl ?_
  refine evIfPos (by decide) ?_
  have hm : mintT acme = ((acme.f0 ++ ⟨#[46]⟩) ++ sufT acme.f0 acme.f1, 0) := by unfold mintT; rw [if_pos acme_ok]
  have hz : (mintT acme).1.size = 69 := by
    rw [hm]
    show ((acme.f0 ++ ⟨#[46]⟩) ++ sufT acme.f0 acme.f1).size = 69
    rw [ByteArray.size_append, ByteArray.size_append, sufT_size]; rfl
  have hl : ∀ t ∈ [acme], t.f0.size ≤ 140737488355328 := by
    intro t ht
    rw [List.mem_singleton] at ht
    subst ht
    decide
  refine Ev.bind (evMint acme (by decide)) ?_
  refine evIfPos (by rw [hz]; decide) ?_
  have hv0 : ((⟨#[66, 101, 97, 114, 101, 114, 32]⟩ : ByteArray) ++ (mintT acme).1).size = 76 := by rw [ByteArray.size_append, hz]; rfl
  have hbt : bearT ((⟨#[66, 101, 97, 114, 101, 114, 32]⟩ : ByteArray) ++ (mintT acme).1) = ((mintT acme).1, 0) := by
    have hd : ((⟨#[66, 101, 97, 114, 101, 114, 32]⟩ : ByteArray) ++ (mintT acme).1).data.toList = [66, 101, 97, 114, 101, 114, 32] ++ (mintT acme).1.data.toList := by simp
    unfold bearT
    rw [if_pos ⟨by omega, by rw [hd, List.take_left' (by rfl)]; decide⟩]
    refine Prod.ext (data_inj ?_) rfl
    show (ByteArray.extract _ 7 _).data.toList = _
    rw [ext_list, hd, List.drop_left' (by rfl), List.take_of_length_le (by rw [len_data]; omega)]
  have hver : verT [acme] (mintT acme).1 = (0, 0) := by
    unfold verT
    rw [if_pos acme_chk]
    show verAt [acme] _ (0 + 1) 0 = _
    rw [verAt, if_pos (by rfl)]
    rfl
  have hw1 : whoT [acme] [(⟨#[66, 101, 97, 114, 101, 114, 32]⟩ : ByteArray) ++ (mintT acme).1] = (0, 0) := by
    unfold whoT
    rw [if_pos acme_chk, if_pos (by rfl)]
    show (if (bearT ((⟨#[66, 101, 97, 114, 101, 114, 32]⟩ : ByteArray) ++ (mintT acme).1)).2 = 0 then verT [acme] (bearT ((⟨#[66, 101, 97, 114, 101, 114, 32]⟩ : ByteArray) ++ (mintT acme).1)).1 else _) = _
    rw [hbt, if_pos rfl, hver]
  have hw2 : whoT [acme] [] = (0, 210) := by
    unfold whoT
    rw [if_pos acme_chk, if_neg (by decide)]
  refine Ev.bind (evWho [acme] _ hl (by intro v hv; rw [List.mem_singleton] at hv; subst hv; omega)) ?_
  refine Ev.bind (evWho [acme] [] hl (by intro v hv; cases hv)) ?_
  rw [hw1, hw2]
  refine evIfPos (by rw [hm]) ?_
  refine evIfPos (by rw [hz]; rfl) ?_
  refine evIfPos rfl (evIfPos rfl (evIfPos rfl ?_))
  refine evBindc (tokF 0 0 (by decide) (by decide) (by decide) (by decide)) ?_
  rw [show (((tokT 0 0).size : Int) == 22) = true by rw [tokT_size]; rfl]
  exact Ev.now _
/-! ### CredTokens -/
theorem nb_be : ∀ (k : Nat) (l : List Int), IsBytes l → l.length = k → nb (beN l) k = l
  | 0, l, h, hk => by rw [List.length_eq_zero_iff.1 hk]; rfl
  | k + 1, l, h, hk => by
    obtain ⟨p, c, rfl⟩ : ∃ p c, l = p ++ [c] := ⟨l.dropLast, l.getLast (by intro e; rw [e] at hk; cases hk), (List.dropLast_concat_getLast _).symm⟩
    have hc := h c (by simp)
    have hp : IsBytes p := fun x hx => h x (by simp [hx])
    have hb := be_range p hp
    rw [be_snoc, nb, show (beN p * 256 + c) / 256 = beN p by omega, show (beN p * 256 + c) % 256 = c by omega, nb_be k p hp (by simpa using hk)]
def parT (s : ByteArray) : Int × Int × Int :=
  if (unT s).2 = true ∧ (unT s).1.size = 16 then (beN (bytesOf ((unT s).1.extract 0 8)), beN (bytesOf ((unT s).1.extract 8 (unT s).1.size)), 0) else (0, 0, 211)
theorem u64_at (s : ByteArray) (p : Nat) (h : p + 8 ≤ s.size) : codec_Reader_U64.f (s.extract p s.size) 0 = some (beN (bytesOf (s.extract p (p + 8))), s.extract (p + 8) s.size, 0) := by
  unfold codec_Reader_U64.f
  have := read_at s p 8 (by omega) h
  rw [show ((8 : Nat) : Int) = 8 from rfl] at this
  rw [this]; rfl
theorem evPar (s : ByteArray) (h : s.size ≤ 140737488351232) : Ev (fun k => cred_ParseToken.f k s) (parT s) := by
  simp only [cred_ParseToken.f]
  have bad : ∀ b, Ev (fun k => cred_ParseToken.j0 k b true) (0, 0, 211) := fun b =>
    Ev.step (f := fun k => _) (fun k => by rw [cred_ParseToken.j0]) (evIfPos rfl (Ev.now _))
  refine evBindc (show mac_Unbase64.f s = some (unT s) from macUn s (by omega)) ?_
  unfold parT
  by_cases h1 : (unT s).2 = true
  · refine evIfPos h1 ?_
    by_cases h2 : (unT s).1.size = 16
    · rw [if_pos ⟨h1, h2⟩, show (((unT s).1.size : Int) != 16) = false by rw [h2]; rfl]
      refine Ev.step (f := fun k => _) (fun k => by rw [cred_ParseToken.j0]) (evIfNeg (by decide) ?_)
      refine evBindc (a := ((unT s).1, 0)) rfl ?_
      have e1 := u64_at (unT s).1 0 (by omega)
      rw [extract_all] at e1
      refine evBindc e1 ?_
      refine evBindc (u64_at (unT s).1 8 (by omega)) ?_
      rw [h2]
      exact Ev.now _
    · rw [if_neg (fun h3 => h2 h3.2), show (((unT s).1.size : Int) != 16) = true by rw [bne_iff_ne]; omega]
      exact bad _
  · rw [if_neg (fun h3 => h1 h3.1)]
    exact evIfNeg h1 (bad _)
theorem evRPar (s : ByteArray) (h : s.size ≤ 140737488351232) : Ev (fun k => atriumref21_ParseToken.f k s) (parT s) := by
  simp only [atriumref21_ParseToken.f]
  have bad : ∀ b, Ev (fun k => atriumref21_ParseToken.j0 k b true) (0, 0, 211) := fun b =>
    Ev.step (f := fun k => _) (fun k => by rw [atriumref21_ParseToken.j0]) (evIfPos rfl (Ev.now _))
  refine Ev.bind (show Ev (fun k => atriumref04_Unbase64.f k s) (unT s) from evUn s h) ?_
  unfold parT
  by_cases h1 : (unT s).2 = true
  · refine evIfPos h1 ?_
    by_cases h2 : (unT s).1.size = 16
    · rw [if_pos ⟨h1, h2⟩, show (((unT s).1.size : Int) != 16) = false by rw [h2]; rfl]
      refine Ev.step (f := fun k => _) (fun k => by rw [atriumref21_ParseToken.j0]) (evIfNeg (by decide) ?_)
      refine evIfPos (by decide) (evIfPos (by omega) ?_)
      refine Ev.bind (ref_read _ (by rw [ByteArray.size_extract]; omega)) ?_
      refine Ev.bind (ref_read _ (by rw [ByteArray.size_extract]; omega)) ?_
      exact Ev.now _
    · rw [if_neg (fun h3 => h2 h3.2), show (((unT s).1.size : Int) != 16) = true by rw [bne_iff_ne]; omega]
      exact bad _
  · rw [if_neg (fun h3 => h1 h3.1)]
    exact evIfNeg h1 (bad _)
theorem unT_tok (n d : Int) : unT (tokT n d) = (tokB n d, true) := by
  unfold unT
  rw [tokT_b64, b64T_data, dec6_back]
  rfl
theorem tokB_bytes (n d : Int) : bytesOf (tokB n d) = nb n 8 ++ nb d 8 := bytes_back _ (fun c hc => by
  rcases List.mem_append.1 hc with h | h
  · exact nb_bytes _ _ c h
  · exact nb_bytes _ _ c h)
theorem bytes_ext (s : ByteArray) (p q : Nat) : bytesOf (s.extract p q) = ((bytesOf s).drop p).take (q - p) := by
  unfold bytesOf
  rw [ext_list, List.map_take, List.map_drop]
theorem par_tok (n d : Int) (h0 : 0 ≤ n) (h1 : n ≤ 18446744073709551615) (h2 : 0 ≤ d) (h3 : d ≤ 18446744073709551615) : parT (tokT n d) = (n, d, 0) := by
  unfold parT
  rw [unT_tok, if_pos ⟨rfl, tokB_size n d⟩]
  show (beN (bytesOf ((tokB n d).extract 0 8)), beN (bytesOf ((tokB n d).extract 8 (tokB n d).size)), (0 : Int)) = _
  rw [bytes_ext, bytes_ext, tokB_bytes, tokB_size, List.drop_zero, List.take_left' (by rw [nb_length]), List.drop_left' (by rw [nb_length]), List.take_of_length_le (by rw [nb_length]; decide), be_nb 8 n h0 (by omega), be_nb 8 d h2 (by omega)]
theorem par_back (s : ByteArray) (h : (parT s).2.2 = 0) : 0 ≤ (parT s).1 ∧ (parT s).1 ≤ 18446744073709551615 ∧ 0 ≤ (parT s).2.1 ∧ (parT s).2.1 ≤ 18446744073709551615 ∧ tokT (parT s).1 (parT s).2.1 = s := by
  unfold parT at h ⊢
  split at h
  · rename_i hu
    rw [if_pos hu]
    have hs := hu.2
    have hl1 : (bytesOf ((unT s).1.extract 0 8)).length = 8 := by rw [bytesOf_length, ByteArray.size_extract]; omega
    have hl2 : (bytesOf ((unT s).1.extract 8 (unT s).1.size)).length = 8 := by rw [bytesOf_length, ByteArray.size_extract]; omega
    have r1 := be_range _ (bytesOf_are ((unT s).1.extract 0 8))
    have r2 := be_range _ (bytesOf_are ((unT s).1.extract 8 (unT s).1.size))
    rw [hl1] at r1
    rw [hl2] at r2
    have p8 : (256 : Int) ^ 8 = 18446744073709551616 := by decide
    rw [p8] at r1 r2
    refine ⟨r1.1, by show beN (bytesOf ((unT s).1.extract 0 8)) ≤ _; omega, r2.1, by show beN (bytesOf ((unT s).1.extract 8 (unT s).1.size)) ≤ _; omega, ?_⟩
    show tokT (beN (bytesOf ((unT s).1.extract 0 8))) (beN (bytesOf ((unT s).1.extract 8 (unT s).1.size))) = s
    rw [tokT_b64]
    have e : tokB (beN (bytesOf ((unT s).1.extract 0 8))) (beN (bytesOf ((unT s).1.extract 8 (unT s).1.size))) = (unT s).1 := by
      unfold tokB
      rw [nb_be 8 _ (bytesOf_are _) hl1, nb_be 8 _ (bytesOf_are _) hl2, bytes_ext, bytes_ext, List.drop_zero]
      have : ((bytesOf (unT s).1).drop 8).take ((unT s).1.size - 8) = (bytesOf (unT s).1).drop 8 := List.take_of_length_le (by rw [List.length_drop, bytesOf_length]; omega)
      rw [this, List.take_append_drop, str_back]
    rw [e]
    exact (un_b64 s hu.1).1
  · cases h
theorem tok_inj (n d m o : Int) (h0 : 0 ≤ n ∧ n ≤ 18446744073709551615) (h1 : 0 ≤ d ∧ d ≤ 18446744073709551615) (h2 : 0 ≤ m ∧ m ≤ 18446744073709551615) (h3 : 0 ≤ o ∧ o ≤ 18446744073709551615) (h : tokT m o = tokT n d) : m = n ∧ o = d := by
  have e1 := par_tok n d h0.1 h0.2 h1.1 h1.2
  have e2 := par_tok m o h2.1 h2.2 h3.1 h3.2
  rw [h, e1] at e2
  simp only [Prod.mk.injEq] at e2
  exact ⟨e2.1.symm, e2.2.1.symm⟩
theorem evRTok (n d : Int) (h0 : 0 ≤ n) (h2 : 0 ≤ d) : Ev (fun k => atriumref21_Token.f k n d) (tokT n d) := by
  simp only [atriumref21_Token.f]
  refine Ev.bind (number_ev n h0 8 (by omega)) ?_
  refine Ev.bind (number_ev d h2 8 (by omega)) ?_
  refine evIfPos (by rw [strOfNums_size, strOfNums_size, nb_length, nb_length]; decide) ?_
  rw [← str_append]
  refine Ev.bind (evB64 _ (by rw [strOfNums_size, List.length_append, nb_length, nb_length]; decide)) ?_
  exact Ev.now _
theorem wf_u64 {a : Int} (h : (Lit.int .u64 a).wf = true) : 0 ≤ a ∧ a ≤ 18446744073709551615 := by
  simp [Lit.wf] at h
  have h1 : IntKind.u64.min = 0 := rfl
  have h2 : IntKind.u64.max = 18446744073709551615 := rfl
  omega
theorem CredTokens : atriumlaw21_CredTokens.Pure := by
  intro a0 a1 a2 a3 a4 w0 w1 w2 w3 h4
  have h0 := wf_u64 w0
  have h1 := wf_u64 w1
  have h2 := wf_u64 w2
  have h3 := wf_u64 w3
  apply Ev.rounds
  simp only [atriumlaw21_CredTokens.f]
  refine evBindc (tokF a0 a1 h0.1 h0.2 h1.1 h1.2) ?_
  refine Ev.bind (evPar _ (by rw [tokT_size]; decide)) ?_
  refine Ev.bind (evPar a4 h4) ?_
  refine Ev.bind (evRPar a4 h4) ?_
  refine Ev.bind evLives ?_
  refine evIfPos rfl ?_
  refine Ev.bind (evRTok a0 a1 h0.1 h1.1) ?_
  rw [par_tok a0 a1 h0.1 h0.2 h1.1 h1.2]
  refine evIfPos rfl (evIfPos rfl (evIfPos rfl (evIfPos rfl (evIfPos rfl (evIfPos rfl ?_)))))
  rw [show ((parT a4).2.2 != (parT a4).2.2) = false by simp]
  refine Ev.step (f := fun k => _) (fun k => by rw [atriumlaw21_CredTokens.j0]) (evIfNeg (by decide) ?_)
  have last : Ev (fun k => (cred_Token.f a2 a3).bind fun t264 => (if a2 = a0 then (some ((t264.toList == (tokT a0 a1).toList) == (a3 == a1))) else (some ((t264.toList == (tokT a0 a1).toList) == false)))) true := by
    refine evBindc (tokF a2 a3 h2.1 h2.2 h3.1 h3.2) ?_
    by_cases hm : a2 = a0
    · refine evIfPos hm ?_
      have e : ((tokT a2 a3).toList == (tokT a0 a1).toList) = (a3 == a1) := by
        rw [Bool.eq_iff_iff, beq_iff_eq, beq_iff_eq, toList_inj]
        constructor
        · exact fun h => (tok_inj a0 a1 a2 a3 h0 h1 h2 h3 h).2
        · rintro rfl; rw [hm]
      rw [e, show ((a3 == a1) == (a3 == a1)) = true by simp]
      exact Ev.now _
    · refine evIfNeg hm ?_
      have e : ((tokT a2 a3).toList == (tokT a0 a1).toList) = false := by
        rw [beq_eq_false_iff_ne, ne_eq, toList_inj]
        exact fun h => hm (tok_inj a0 a1 a2 a3 h0 h1 h2 h3 h).1
      rw [e]
      exact Ev.now _
  by_cases hf : (parT a4).2.2 = 0
  · refine evIfPos hf ?_
    obtain ⟨p1, p2, p3, p4, p5⟩ := par_back a4 hf
    refine evBindc (tokF _ _ p1 p2 p3 p4) ?_
    refine evIfPos (by rw [p5]) ?_
    exact last
  · exact evIfNeg hf last
end Go.Proofs.Ytehnpmkfgdmmmaa.Pure
