/- The reference's Decode, Runes, Valid and Count are what the model's own range tells: pure laws. -/
import Derived.Test.YtkekkabelnmlnaaPTx6
import Derived.Test.YtkekkabelnmlnaaPTx7
import Derived.Test.YtkekkabelnmlnaaPc
namespace Go.Proofs.Ytkekkabelnmlnaa.Pure
set_option linter.unusedVariables false
open Go.RowKit Go.Proofs.Ytkekkabelnmlnaa Go.Proofs.Ytkekkabelnmlnaa.PT Go.Proofs.YtkekkabelnmlnaaW.PrintWords Go.Proofs.YtkekkabelnmlnaaW.PrintLast

theorem isRune_eq (n : Int) : atriumref15_isRune.f n = some (Utf8.valid n) := by
  unfold atriumref15_isRune.f
  rw [validRune_eq]
  unfold validRune
  by_cases h1 : 0 ≤ n <;> by_cases h2 : n ≤ 1114111 <;> by_cases h3 : n < 55296 <;> simp only [ge_iff_le, h1, h2, h3, if_true, if_false] <;> congr 1 <;> rw [Bool.eq_iff_iff] <;> simp <;> omega

/-- The UTF-8 of a rune, as numbers. -/
def encN (n : Nat) : List Nat :=
  if n < 128 then [n] else if n < 2048 then [192 + n / 64, 128 + n % 64] else if n < 65536 then [224 + n / 4096, 128 + n / 64 % 64, 128 + n % 64]
  else [240 + n / 262144, 128 + n / 4096 % 64, 128 + n / 64 % 64, 128 + n % 64]

set_option maxRecDepth 100000 in
theorem encode_data (n : Int) (hv : Utf8.valid n = true) : (Utf8.encode n).data.toList = (encN n.toNat).map UInt8.ofNat := by
  unfold Utf8.encode encN
  simp only [hv, if_true]
  by_cases h1 : n.toNat < 128
  · simp only [h1, if_true]; rfl
  by_cases h2 : n.toNat < 2048
  · simp only [h1, h2, if_true, if_false]; rfl
  by_cases h3 : n.toNat < 65536
  · simp only [h1, h2, h3, if_true, if_false]; rfl
  · simp only [h1, h2, h3, if_false]; rfl

theorem valid_le {n : Int} (hv : Utf8.valid n = true) : 0 ≤ n ∧ n ≤ 1114111 := by
  rw [validRune_eq] at hv
  unfold validRune at hv
  simp at hv
  omega

set_option maxRecDepth 100000 in
theorem bytes_eq (n : Int) (hv : Utf8.valid n = true) : atriumref15_bytes.f n = some (Utf8.encode n) := by
  obtain ⟨h0, hm⟩ := valid_le hv
  obtain ⟨m, rfl⟩ := Int.eq_ofNat_of_zero_le h0
  have e : ∀ l : List Int, l.map (fun x => UInt8.ofNat x.toNat) = (encN m).map UInt8.ofNat → some (strOfNums l) = some (Utf8.encode (m : Int)) := fun l hl => by
    refine congrArg some (data_inj ?_)
    rw [strOfNums_data, hl, encode_data _ hv, Int.toNat_natCast]
  have t1 : (m : Int).tdiv 64 = (m : Int) / 64 := Int.tdiv_eq_ediv_of_nonneg (by omega)
  have t2 : (m : Int).tdiv 4096 = (m : Int) / 4096 := Int.tdiv_eq_ediv_of_nonneg (by omega)
  have t3 : (m : Int).tdiv 262144 = (m : Int) / 262144 := Int.tdiv_eq_ediv_of_nonneg (by omega)
  have w1 : wrap64 ((m : Int) / 64) = (m : Int) / 64 := wrap64_id (by omega) (by omega)
  have w2 : wrap64 ((m : Int) / 4096) = (m : Int) / 4096 := wrap64_id (by omega) (by omega)
  have w3 : wrap64 ((m : Int) / 262144) = (m : Int) / 262144 := wrap64_id (by omega) (by omega)
  have r0 : (m : Int).tmod 64 = (m : Int) % 64 := Int.tmod_eq_emod_of_nonneg (by omega)
  have r1 : ((m : Int) / 64).tmod 64 = (m : Int) / 64 % 64 := Int.tmod_eq_emod_of_nonneg (by omega)
  have r2 : ((m : Int) / 4096).tmod 64 = (m : Int) / 4096 % 64 := Int.tmod_eq_emod_of_nonneg (by omega)
  have f : ∀ (x : Int) (y : Nat), x = (y : Int) → UInt8.ofNat x.toNat = UInt8.ofNat y := fun x y h => by rw [h]; rfl
  unfold atriumref15_bytes.f
  simp only [t1, t2, t3, w1, w2, w3, r0, r1, r2]
  by_cases h1 : m < 128
  · rw [if_pos (by omega)]
    refine e _ ?_
    simp only [encN, h1, if_true, List.map_cons, List.map_nil]
    rw [f _ m (by omega)]
  rw [if_neg (by omega)]
  by_cases h2 : m < 2048
  · rw [if_pos (by omega)]
    refine e _ ?_
    simp only [encN, h1, h2, if_true, if_false, List.map_cons, List.map_nil]
    rw [f _ (192 + m / 64) (by rw [wrap64_id (by omega) (by omega)]; omega), f _ (128 + m % 64) (by rw [wrap64_id (by omega) (by omega)]; omega)]
  rw [if_neg (by omega)]
  by_cases h3 : m < 65536
  · rw [if_pos (by omega)]
    refine e _ ?_
    simp only [encN, h1, h2, h3, if_true, if_false, List.map_cons, List.map_nil]
    rw [f _ (224 + m / 4096) (by rw [wrap64_id (by omega) (by omega)]; omega), f _ (128 + m / 64 % 64) (by rw [wrap64_id (by omega) (by omega)]; omega), f _ (128 + m % 64) (by rw [wrap64_id (by omega) (by omega)]; omega)]
  · rw [if_neg (by omega)]
    refine e _ ?_
    simp only [encN, h1, h2, h3, if_false, List.map_cons, List.map_nil]
    rw [f _ (240 + m / 262144) (by rw [wrap64_id (by omega) (by omega)]; omega), f _ (128 + m / 4096 % 64) (by rw [wrap64_id (by omega) (by omega)]; omega), f _ (128 + m / 64 % 64) (by rw [wrap64_id (by omega) (by omega)]; omega), f _ (128 + m % 64) (by rw [wrap64_id (by omega) (by omega)]; omega)]

/-! ### A prefix of a text against a rune's UTF-8 -/
def byteN (s : ByteArray) (k : Nat) : Nat := (s.get! k).toNat
theorem byteN_lt (s : ByteArray) (k : Nat) : byteN s k < 256 := (s.get! k).toNat_lt
theorem bt_byteN (s : ByteArray) (k : Nat) (h : k < s.size) : bt s (k : Int) = (byteN s k : Int) := by
  rw [bt_nat s k h, byteN, get_getD, List.getD_eq_getElem?_getD, List.getElem?_eq_getElem (by simpa using h)]; rfl

theorem take_bytes (s : ByteArray) (m : Nat) (h : m ≤ s.size) : s.data.toList.take m = (List.range m).map fun k => UInt8.ofNat (byteN s k) := by
  have hl : s.data.toList.length = s.size := Array.length_toList
  apply List.ext_getElem
  · simp [hl]; omega
  · intro i h1 h2
    have hi : i < s.data.toList.length := by rw [hl]; simp at h2; omega
    simp only [List.getElem_take, List.getElem_map, List.getElem_range, byteN, get_getD, UInt8.ofNat_toNat]
    rw [List.getD_eq_getElem?_getD, List.getElem?_eq_getElem hi]; rfl

theorem map_ofNat_inj : ∀ (l l' : List Nat), (∀ x ∈ l, x < 256) → (∀ x ∈ l', x < 256) → l.map UInt8.ofNat = l'.map UInt8.ofNat → l = l' := by
  intro l
  induction l with
  | nil => intro l' _ _ h; cases l' with | nil => rfl | cons a l' => simp at h
  | cons a l ih =>
    intro l' h1 h2 h
    cases l' with
    | nil => simp at h
    | cons b l' =>
      simp only [List.map_cons, List.cons.injEq] at h
      have e := congrArg UInt8.toNat h.1
      have ha := h1 a (by simp)
      have hb := h2 b (by simp)
      simp only [UInt8.toNat_ofNat'] at e
      rw [ih l' (fun x hx => h1 x (by simp [hx])) (fun x hx => h2 x (by simp [hx])) h.2, show a = b by omega]

theorem encN_lt (n : Nat) (h : n ≤ 1114111) : ∀ x ∈ encN n, x < 256 := by
  intro x hx
  unfold encN at hx
  split at hx
  · simp at hx; omega
  split at hx
  · simp at hx; omega
  split at hx
  · simp at hx; omega
  · simp at hx; omega

/-- A rune's UTF-8 stands at the begin just if its numbers do. -/
theorem prefix_iff (s : ByteArray) (m : Nat) (h : m ≤ s.size) (n : Int) (hv : Utf8.valid n = true) :
    ((Utf8.encode n).toList = (s.extract 0 m).toList) ↔ encN n.toNat = (List.range m).map (byteN s) := by
  obtain ⟨h0, hm⟩ := valid_le hv
  rw [ByteArray.toList_eq, ByteArray.toList_eq, encode_data n hv, ByteArray.data_extract, Array.toList_extract, List.extract_eq_take_drop, List.drop_zero, Nat.sub_zero, take_bytes s m h]
  constructor
  · intro hh
    refine map_ofNat_inj _ _ (encN_lt _ (by omega)) ?_ (by rw [hh, List.map_map]; rfl)
    intro x hx
    obtain ⟨k, _, rfl⟩ := List.mem_map.1 hx
    exact byteN_lt s k
  · intro hh
    rw [hh, List.map_map]; rfl

set_option maxRecDepth 100000 in
theorem enc2_iff (a b : Nat) (ha : a < 256) (hb : b < 256) (h128 : 128 ≤ a) :
    (Utf8.valid (((a : Int) - 192) * 64 + b - 128) = true ∧ encN (((a : Int) - 192) * 64 + b - 128).toNat = [a, b]) ↔ (a / 32 = 6 ∧ b / 64 = 2 ∧ 128 ≤ a % 32 * 64 + b % 64) := by
  constructor
  · rintro ⟨hv, he⟩
    obtain ⟨h0, hm⟩ := valid_le hv
    unfold encN at he
    split at he
    · simp at he
    split at he
    · simp only [List.cons.injEq, and_true] at he; omega
    split at he <;> simp at he
  · rintro ⟨h1, h2, h3⟩
    have e : (((a : Int) - 192) * 64 + b - 128).toNat = a % 32 * 64 + b % 64 := by omega
    refine ⟨?_, ?_⟩
    · rw [validRune_eq]; unfold validRune; simp; omega
    · rw [e]
      unfold encN
      rw [if_neg (by omega), if_pos (by omega)]
      simp only [List.cons.injEq, and_true]; omega

set_option maxRecDepth 100000 in
theorem enc3_iff (a b c : Nat) (ha : a < 256) (hb : b < 256) (hc : c < 256) (h128 : 128 ≤ a) :
    (Utf8.valid (((a : Int) - 224) * 4096 + ((b : Int) - 128) * 64 + c - 128) = true ∧ encN (((a : Int) - 224) * 4096 + ((b : Int) - 128) * 64 + c - 128).toNat = [a, b, c]) ↔
      (a / 16 = 14 ∧ b / 64 = 2 ∧ c / 64 = 2 ∧ 2048 ≤ a % 16 * 4096 + b % 64 * 64 + c % 64 ∧ Utf8.valid ((a % 16 * 4096 + b % 64 * 64 + c % 64 : Nat) : Int) = true) := by
  constructor
  · rintro ⟨hv, he⟩
    obtain ⟨h0, hm⟩ := valid_le hv
    unfold encN at he
    split at he
    · simp at he
    split at he
    · simp at he
    split at he
    · simp only [List.cons.injEq, and_true] at he
      have e : ((a % 16 * 4096 + b % 64 * 64 + c % 64 : Nat) : Int) = ((a : Int) - 224) * 4096 + ((b : Int) - 128) * 64 + c - 128 := by omega
      rw [e]
      refine ⟨by omega, by omega, by omega, by omega, hv⟩
    · simp at he
  · rintro ⟨h1, h2, h3, h4, hv⟩
    have e : ((a : Int) - 224) * 4096 + ((b : Int) - 128) * 64 + c - 128 = ((a % 16 * 4096 + b % 64 * 64 + c % 64 : Nat) : Int) := by omega
    rw [e, Int.toNat_natCast]
    refine ⟨hv, ?_⟩
    unfold encN
    rw [if_neg (by omega), if_neg (by omega), if_pos (by omega)]
    simp only [List.cons.injEq, and_true]; omega

set_option maxRecDepth 100000 in
theorem enc4_iff (a b c d : Nat) (ha : a < 256) (hb : b < 256) (hc : c < 256) (hd : d < 256) (h128 : 128 ≤ a) :
    (Utf8.valid (((a : Int) - 240) * 262144 + ((b : Int) - 128) * 4096 + ((c : Int) - 128) * 64 + d - 128) = true ∧ encN (((a : Int) - 240) * 262144 + ((b : Int) - 128) * 4096 + ((c : Int) - 128) * 64 + d - 128).toNat = [a, b, c, d]) ↔
      (a / 8 = 30 ∧ b / 64 = 2 ∧ c / 64 = 2 ∧ d / 64 = 2 ∧ 65536 ≤ a % 8 * 262144 + b % 64 * 4096 + c % 64 * 64 + d % 64 ∧ Utf8.valid ((a % 8 * 262144 + b % 64 * 4096 + c % 64 * 64 + d % 64 : Nat) : Int) = true) := by
  constructor
  · rintro ⟨hv, he⟩
    obtain ⟨h0, hm⟩ := valid_le hv
    unfold encN at he
    split at he
    · simp at he
    split at he
    · simp at he
    split at he
    · simp at he
    · simp only [List.cons.injEq, and_true] at he
      have e : ((a % 8 * 262144 + b % 64 * 4096 + c % 64 * 64 + d % 64 : Nat) : Int) = ((a : Int) - 240) * 262144 + ((b : Int) - 128) * 4096 + ((c : Int) - 128) * 64 + d - 128 := by omega
      rw [e]
      refine ⟨by omega, by omega, by omega, by omega, by omega, hv⟩
  · rintro ⟨h1, h2, h3, h4, h5, hv⟩
    have e : ((a : Int) - 240) * 262144 + ((b : Int) - 128) * 4096 + ((c : Int) - 128) * 64 + d - 128 = ((a % 8 * 262144 + b % 64 * 4096 + c % 64 * 64 + d % 64 : Nat) : Int) := by omega
    rw [e, Int.toNat_natCast]
    refine ⟨hv, ?_⟩
    unfold encN
    rw [if_neg (by omega), if_neg (by omega), if_neg (by omega)]
    simp only [List.cons.injEq, and_true]; omega

/-! ### Decode -/
def c2 (s : ByteArray) : Nat := byteN s 0 % 32 * 64 + byteN s 1 % 64
def c3 (s : ByteArray) : Nat := byteN s 0 % 16 * 4096 + byteN s 1 % 64 * 64 + byteN s 2 % 64
def c4 (s : ByteArray) : Nat := byteN s 0 % 8 * 262144 + byteN s 1 % 64 * 4096 + byteN s 2 % 64 * 64 + byteN s 3 % 64

theorem dec0 (s : ByteArray) (h0 : 0 < s.size) : Utf8.decode s 0 =
    if byteN s 0 < 128 then (byteN s 0, 1)
    else if byteN s 0 / 32 = 6 ∧ 1 < s.size ∧ byteN s 1 / 64 = 2 then (if 128 ≤ c2 s then (c2 s, 2) else (65533, 1))
    else if (byteN s 0 / 16 = 14 ∧ 1 < s.size ∧ byteN s 1 / 64 = 2) ∧ 2 < s.size ∧ byteN s 2 / 64 = 2 then (if 2048 ≤ c3 s ∧ Utf8.valid (c3 s : Int) = true then (c3 s, 3) else (65533, 1))
    else if ((byteN s 0 / 8 = 30 ∧ 1 < s.size ∧ byteN s 1 / 64 = 2) ∧ 2 < s.size ∧ byteN s 2 / 64 = 2) ∧ 3 < s.size ∧ byteN s 3 / 64 = 2 then (if 65536 ≤ c4 s ∧ Utf8.valid (c4 s : Int) = true then (c4 s, 4) else (65533, 1))
    else (65533, 1) := by
  unfold Utf8.decode
  simp only [Nat.zero_add, Bool.and_eq_true, decide_eq_true_eq, beq_iff_eq, ge_iff_le, Utf8.runeError]
  rfl

theorem j2_ev (s : ByteArray) (m : Nat) (n : Int) (r : Int × Int) (hm : m ≤ s.size) (hm4 : m ≤ 4)
    (hhit : Utf8.valid n = true → encN n.toNat = (List.range m).map (byteN s) → r = (n, (m : Int)))
    (hmiss : ¬ (Utf8.valid n = true ∧ encN n.toNat = (List.range m).map (byteN s)) → Ev (fun k => atriumref15_Decode.l0 k s ((m + 1 : Nat) : Int)) r) :
    Ev (fun k => atriumref15_Decode.j2 k s (m : Int) n) r := by
  refine Ev.step (fun k => by simp only [atriumref15_Decode.j2]; exact rfl) ?_
  simp only [isRune_eq, Option.bind_some, wrap64_succ (show m < 9223372036854775807 by omega)]
  cases hv : Utf8.valid n with
  | false =>
    simp only [Bool.false_eq_true, if_false]
    exact hmiss (by simp [hv])
  | true =>
    obtain ⟨h0, h1⟩ := valid_le hv
    simp only [if_true, bytes_eq n hv, Option.bind_some, if_pos (show (0 : Int) ≤ (m : Int) by omega), if_pos (show (m : Int) ≤ (s.size : Int) by omega), Int.toNat_natCast]
    by_cases he : encN n.toNat = (List.range m).map (byteN s)
    · simp only [if_pos ((prefix_iff s m hm n hv).2 he)]
      rw [hhit hv he, wrap32_id (by omega) (by omega)]
      exact Ev.now _
    · simp only [if_neg (fun h => he ((prefix_iff s m hm n hv).1 h))]
      exact hmiss (by simp [he])

theorem l0_end (s : ByteArray) (m : Nat) (h : 4 < m ∨ s.size < m) : Ev (fun k => atriumref15_Decode.l0 k s (m : Int)) (65533, 1) := by
  have hj : Ev (fun k => atriumref15_Decode.j1 k s (m : Int) false) (65533, 1) := by
    refine Ev.step (fun k => by simp only [atriumref15_Decode.j1]; exact rfl) ?_
    simp only [Bool.false_eq_true, if_false]
    exact Ev.now _
  refine Ev.step (fun k => by simp only [atriumref15_Decode.l0]; exact rfl) ?_
  by_cases h4 : m ≤ 4
  · simp only [if_pos (show (m : Int) ≤ 4 by omega), decide_eq_false (show ¬ (m : Int) ≤ (s.size : Int) by omega)]
    exact hj
  · simp only [if_neg (show ¬ (m : Int) ≤ 4 by omega)]
    exact hj

theorem j1_of (s : ByteArray) (m : Nat) (r : Int × Int) (h4 : m ≤ 4) (hs : m ≤ s.size) (h : Ev (fun k => atriumref15_Decode.j1 k s (m : Int) true) r) : Ev (fun k => atriumref15_Decode.l0 k s (m : Int)) r := by
  refine Ev.step (fun k => by simp only [atriumref15_Decode.l0]; exact rfl) ?_
  simp only [if_pos (show (m : Int) ≤ 4 by omega), decide_eq_true (show (m : Int) ≤ (s.size : Int) by omega)]
  exact h

theorem l0_1 (s : ByteArray) (r : Int × Int) (hs : 1 ≤ s.size) (h : Ev (fun k => atriumref15_Decode.j2 k s ((1 : Nat) : Int) (byteN s 0 : Int)) r) : Ev (fun k => atriumref15_Decode.l0 k s ((1 : Nat) : Int)) r := by
  refine j1_of s 1 r (by omega) hs ?_
  have b0 := bt_byteN s 0 (by omega)
  have q0 := byteN_lt s 0
  refine Ev.step (fun k => by simp only [atriumref15_Decode.j1]; exact rfl) ?_
  simp only [if_true, if_pos (show ((1 : Nat) : Int) = 1 by rfl), if_pos (show (0 : Int) < (s.size : Int) by omega)]
  rw [show wrap64 (bt s 0) = (byteN s 0 : Int) by rw [show bt s 0 = (byteN s 0 : Int) from b0]; exact wrap64_id (by omega) (by omega)]
  exact h

theorem l0_2 (s : ByteArray) (r : Int × Int) (hs : 2 ≤ s.size) (h : Ev (fun k => atriumref15_Decode.j2 k s ((2 : Nat) : Int) (((byteN s 0 : Int) - 192) * 64 + (byteN s 1 : Int) - 128)) r) : Ev (fun k => atriumref15_Decode.l0 k s ((2 : Nat) : Int)) r := by
  refine j1_of s 2 r (by omega) hs ?_
  have b0 : bt s 0 = (byteN s 0 : Int) := bt_byteN s 0 (by omega)
  have b1 : bt s 1 = (byteN s 1 : Int) := bt_byteN s 1 (by omega)
  have q0 := byteN_lt s 0
  have q1 := byteN_lt s 1
  refine Ev.step (fun k => by simp only [atriumref15_Decode.j1]; exact rfl) ?_
  simp only [if_true, if_neg (show ¬ ((2 : Nat) : Int) = 1 by decide), if_pos (show ((2 : Nat) : Int) = 2 by rfl), if_pos (show (0 : Int) < (s.size : Int) by omega), if_pos (show (1 : Int) < (s.size : Int) by omega), b0, b1]
  rw [show wrap64 (wrap64 (wrap64 (wrap64 (wrap64 (byteN s 0 : Int) - 192) * 64) + wrap64 (byteN s 1 : Int)) - 128) = ((byteN s 0 : Int) - 192) * 64 + (byteN s 1 : Int) - 128 by simp (disch := omega) only [wrap64_id]]
  exact h

theorem l0_3 (s : ByteArray) (r : Int × Int) (hs : 3 ≤ s.size) (h : Ev (fun k => atriumref15_Decode.j2 k s ((3 : Nat) : Int) (((byteN s 0 : Int) - 224) * 4096 + ((byteN s 1 : Int) - 128) * 64 + (byteN s 2 : Int) - 128)) r) : Ev (fun k => atriumref15_Decode.l0 k s ((3 : Nat) : Int)) r := by
  refine j1_of s 3 r (by omega) hs ?_
  have b0 : bt s 0 = (byteN s 0 : Int) := bt_byteN s 0 (by omega)
  have b1 : bt s 1 = (byteN s 1 : Int) := bt_byteN s 1 (by omega)
  have b2 : bt s 2 = (byteN s 2 : Int) := bt_byteN s 2 (by omega)
  have q0 := byteN_lt s 0
  have q1 := byteN_lt s 1
  have q2 := byteN_lt s 2
  refine Ev.step (fun k => by simp only [atriumref15_Decode.j1]; exact rfl) ?_
  simp only [if_true, if_neg (show ¬ ((3 : Nat) : Int) = 1 by decide), if_neg (show ¬ ((3 : Nat) : Int) = 2 by decide), if_pos (show ((3 : Nat) : Int) = 3 by rfl), if_pos (show (0 : Int) < (s.size : Int) by omega), if_pos (show (1 : Int) < (s.size : Int) by omega), if_pos (show (2 : Int) < (s.size : Int) by omega), b0, b1, b2]
  rw [show wrap64 (wrap64 (wrap64 (wrap64 (wrap64 (wrap64 (byteN s 0 : Int) - 224) * 4096) + wrap64 (wrap64 (wrap64 (byteN s 1 : Int) - 128) * 64)) + wrap64 (byteN s 2 : Int)) - 128) = ((byteN s 0 : Int) - 224) * 4096 + ((byteN s 1 : Int) - 128) * 64 + (byteN s 2 : Int) - 128 by simp (disch := omega) only [wrap64_id]]
  exact h

theorem l0_4 (s : ByteArray) (r : Int × Int) (hs : 4 ≤ s.size) (h : Ev (fun k => atriumref15_Decode.j2 k s ((4 : Nat) : Int) (((byteN s 0 : Int) - 240) * 262144 + ((byteN s 1 : Int) - 128) * 4096 + ((byteN s 2 : Int) - 128) * 64 + (byteN s 3 : Int) - 128)) r) : Ev (fun k => atriumref15_Decode.l0 k s ((4 : Nat) : Int)) r := by
  refine j1_of s 4 r (by omega) hs ?_
  have b0 : bt s 0 = (byteN s 0 : Int) := bt_byteN s 0 (by omega)
  have b1 : bt s 1 = (byteN s 1 : Int) := bt_byteN s 1 (by omega)
  have b2 : bt s 2 = (byteN s 2 : Int) := bt_byteN s 2 (by omega)
  have b3 : bt s 3 = (byteN s 3 : Int) := bt_byteN s 3 (by omega)
  have q0 := byteN_lt s 0
  have q1 := byteN_lt s 1
  have q2 := byteN_lt s 2
  have q3 := byteN_lt s 3
  refine Ev.step (fun k => by simp only [atriumref15_Decode.j1]; exact rfl) ?_
  simp only [if_true, if_neg (show ¬ ((4 : Nat) : Int) = 1 by decide), if_neg (show ¬ ((4 : Nat) : Int) = 2 by decide), if_neg (show ¬ ((4 : Nat) : Int) = 3 by decide), if_pos (show ((4 : Nat) : Int) = 4 by rfl), if_pos (show (0 : Int) < (s.size : Int) by omega), if_pos (show (1 : Int) < (s.size : Int) by omega), if_pos (show (2 : Int) < (s.size : Int) by omega), if_pos (show (3 : Int) < (s.size : Int) by omega), b0, b1, b2, b3]
  rw [show wrap64 (wrap64 (wrap64 (wrap64 (wrap64 (wrap64 (wrap64 (byteN s 0 : Int) - 240) * 262144) + wrap64 (wrap64 (wrap64 (byteN s 1 : Int) - 128) * 4096)) + wrap64 (wrap64 (wrap64 (byteN s 2 : Int) - 128) * 64)) + wrap64 (byteN s 3 : Int)) - 128) = ((byteN s 0 : Int) - 240) * 262144 + ((byteN s 1 : Int) - 128) * 4096 + ((byteN s 2 : Int) - 128) * 64 + (byteN s 3 : Int) - 128 by simp (disch := omega) only [wrap64_id]]
  exact h

end Go.Proofs.Ytkekkabelnmlnaa.Pure
