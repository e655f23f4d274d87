/- The reference's Decode, Runes, Valid and Count are what the model's own range tells: pure laws. -/
import Derived.Test.YtkekkabelnmlnaaDoorPTx
import Derived.Test.YtkekkabelnmlnaaDoorPc
namespace Go.Proofs.YtkekkabelnmlnaaDoor.Pure
set_option linter.unusedVariables false
open Go.RowKit Go.Proofs.YtkekkabelnmlnaaDoor Go.Proofs.YtkekkabelnmlnaaDoor.PT Go.Proofs.YtkekkabelnmlnaaDoorW.PrintWords Go.Proofs.YtkekkabelnmlnaaDoorW.PrintLast

theorem isRune_eq (n : Int) : atriumref15_isRune.f n = some (Utf8.valid n) := by
  unfold atriumref15_isRune.f
  rw [validRune_eq]
  unfold validRune
  by_cases h1 : 0 ≤ n <;> by_cases h2 : n ≤ 1114111 <;> by_cases h3 : n < 55296 <;> simp only [ge_iff_le, h1, h2, h3, if_true, if_false] <;> congr 1 <;> rw [Bool.eq_iff_iff] <;> simp <;> omega

/-- The UTF-8 of a rune, as numbers. -/
def encN (n : Nat) : List Nat :=
  if n < 128 then [n] else if n < 2048 then [192 + n / 64, 128 + n % 64] else if n < 65536 then [224 + n / 4096, 128 + n / 64 % 64, 128 + n % 64]
  else [240 + n / 262144, 128 + n / 4096 % 64, 128 + n / 64 % 64, 128 + n % 64]

set_option maxRecDepth 100000 in
theorem encode_data (n : Int) (hv : Utf8.valid n = true) : (Utf8.encode n).data.toList = (encN n.toNat).map UInt8.ofNat := by
  unfold Utf8.encode encN
  simp only [hv, if_true]
  by_cases h1 : n.toNat < 128
  · simp only [h1, if_true]; rfl
  by_cases h2 : n.toNat < 2048
  · simp only [h1, h2, if_true, if_false]; rfl
  by_cases h3 : n.toNat < 65536
  · simp only [h1, h2, h3, if_true, if_false]; rfl
  · simp only [h1, h2, h3, if_false]; rfl

theorem valid_le {n : Int} (hv : Utf8.valid n = true) : 0 ≤ n ∧ n ≤ 1114111 := by
  rw [validRune_eq] at hv
  unfold validRune at hv
  simp at hv
  omega

set_option maxRecDepth 100000 in
theorem bytes_eq (n : Int) (hv : Utf8.valid n = true) : atriumref15_bytes.f n = some (Utf8.encode n) := by
  obtain ⟨h0, hm⟩ := valid_le hv
  obtain ⟨m, rfl⟩ := Int.eq_ofNat_of_zero_le h0
  have e : ∀ l : List Int, l.map (fun x => UInt8.ofNat x.toNat) = (encN m).map UInt8.ofNat → some (strOfNums l) = some (Utf8.encode (m : Int)) := fun l hl => by
    refine congrArg some (data_inj ?_)
    rw [strOfNums_data, hl, encode_data _ hv, Int.toNat_natCast]
  have t1 : (m : Int).tdiv 64 = (m : Int) / 64 := Int.tdiv_eq_ediv_of_nonneg (by omega)
  have t2 : (m : Int).tdiv 4096 = (m : Int) / 4096 := Int.tdiv_eq_ediv_of_nonneg (by omega)
  have t3 : (m : Int).tdiv 262144 = (m : Int) / 262144 := Int.tdiv_eq_ediv_of_nonneg (by omega)
  have w1 : wrap64 ((m : Int) / 64) = (m : Int) / 64 := wrap64_id (by omega) (by omega)
  have w2 : wrap64 ((m : Int) / 4096) = (m : Int) / 4096 := wrap64_id (by omega) (by omega)
  have w3 : wrap64 ((m : Int) / 262144) = (m : Int) / 262144 := wrap64_id (by omega) (by omega)
  have r0 : (m : Int).tmod 64 = (m : Int) % 64 := Int.tmod_eq_emod_of_nonneg (by omega)
  have r1 : ((m : Int) / 64).tmod 64 = (m : Int) / 64 % 64 := Int.tmod_eq_emod_of_nonneg (by omega)
  have r2 : ((m : Int) / 4096).tmod 64 = (m : Int) / 4096 % 64 := Int.tmod_eq_emod_of_nonneg (by omega)
  have f : ∀ (x : Int) (y : Nat), x = (y : Int) → UInt8.ofNat x.toNat = UInt8.ofNat y := fun x y h => by rw [h]; rfl
  unfold atriumref15_bytes.f
  simp only [t1, t2, t3, w1, w2, w3, r0, r1, r2]
  by_cases h1 : m < 128
  · rw [if_pos (by omega)]
    refine e _ ?_
    simp only [encN, h1, if_true, List.map_cons, List.map_nil]
    rw [f _ m (by omega)]
  rw [if_neg (by omega)]
  by_cases h2 : m < 2048
  · rw [if_pos (by omega)]
    refine e _ ?_
    simp only [encN, h1, h2, if_true, if_false, List.map_cons, List.map_nil]
    rw [f _ (192 + m / 64) (by rw [wrap64_id (by omega) (by omega)]; omega), f _ (128 + m % 64) (by rw [wrap64_id (by omega) (by omega)]; omega)]
  rw [if_neg (by omega)]
  by_cases h3 : m < 65536
  · rw [if_pos (by omega)]
    refine e _ ?_
    simp only [encN, h1, h2, h3, if_true, if_false, List.map_cons, List.map_nil]
    rw [f _ (224 + m / 4096) (by rw [wrap64_id (by omega) (by omega)]; omega), f _ (128 + m / 64 % 64) (by rw [wrap64_id (by omega) (by omega)]; omega), f _ (128 + m % 64) (by rw [wrap64_id (by omega) (by omega)]; omega)]
  · rw [if_neg (by omega)]
    refine e _ ?_
    simp only [encN, h1, h2, h3, if_false, List.map_cons, List.map_nil]
    rw [f _ (240 + m / 262144) (by rw [wrap64_id (by omega) (by omega)]; omega), f _ (128 + m / 4096 % 64) (by rw [wrap64_id (by omega) (by omega)]; omega), f _ (128 + m / 64 % 64) (by rw [wrap64_id (by omega) (by omega)]; omega), f _ (128 + m % 64) (by rw [wrap64_id (by omega) (by omega)]; omega)]

/-! ### A prefix of a text against a rune's UTF-8 -/
def byteN (s : ByteArray) (k : Nat) : Nat := (s.get! k).toNat
theorem byteN_lt (s : ByteArray) (k : Nat) : byteN s k < 256 := (s.get! k).toNat_lt
theorem bt_byteN (s : ByteArray) (k : Nat) (h : k < s.size) : bt s (k : Int) = (byteN s k : Int) := by
  rw [bt_nat s k h, byteN, get_getD, List.getD_eq_getElem?_getD, List.getElem?_eq_getElem (by simpa using h)]; rfl

theorem take_bytes (s : ByteArray) (m : Nat) (h : m ≤ s.size) : s.data.toList.take m = (List.range m).map fun k => UInt8.ofNat (byteN s k) := by
  have hl : s.data.toList.length = s.size := Array.length_toList
  apply List.ext_getElem
  · simp [hl]; omega
  · intro i h1 h2
    have hi : i < s.data.toList.length := by rw [hl]; simp at h2; omega
    simp only [List.getElem_take, List.getElem_map, List.getElem_range, byteN, get_getD, UInt8.ofNat_toNat]
    rw [List.getD_eq_getElem?_getD, List.getElem?_eq_getElem hi]; rfl

theorem map_ofNat_inj : ∀ (l l' : List Nat), (∀ x ∈ l, x < 256) → (∀ x ∈ l', x < 256) → l.map UInt8.ofNat = l'.map UInt8.ofNat → l = l' := by
  intro l
  induction l with
  | nil => intro l' _ _ h; cases l' with | nil => rfl | cons a l' => simp at h
  | cons a l ih =>
    intro l' h1 h2 h
    cases l' with
    | nil => simp at h
    | cons b l' =>
      simp only [List.map_cons, List.cons.injEq] at h
      have e := congrArg UInt8.toNat h.1
      have ha := h1 a (by simp)
      have hb := h2 b (by simp)
      simp only [UInt8.toNat_ofNat'] at e
      rw [ih l' (fun x hx => h1 x (by simp [hx])) (fun x hx => h2 x (by simp [hx])) h.2, show a = b by omega]

theorem encN_lt (n : Nat) (h : n ≤ 1114111) : ∀ x ∈ encN n, x < 256 := by
  intro x hx
  unfold encN at hx
  split at hx
  · simp at hx; omega
  split at hx
  · simp at hx; omega
  split at hx
  · simp at hx; omega
  · simp at hx; omega

/-- A rune's UTF-8 stands at the begin just if its numbers do. -/
theorem prefix_iff (s : ByteArray) (m : Nat) (h : m ≤ s.size) (n : Int) (hv : Utf8.valid n = true) :
    ((Utf8.encode n).toList = (s.extract 0 m).toList) ↔ encN n.toNat = (List.range m).map (byteN s) := by
  obtain ⟨h0, hm⟩ := valid_le hv
  rw [ByteArray.toList_eq, ByteArray.toList_eq, encode_data n hv, ByteArray.data_extract, Array.toList_extract, List.extract_eq_take_drop, List.drop_zero, Nat.sub_zero, take_bytes s m h]
  constructor
  · intro hh
    refine map_ofNat_inj _ _ (encN_lt _ (by omega)) ?_ (by rw [hh, List.map_map]; rfl)
    intro x hx
    obtain ⟨k, _, rfl⟩ := List.mem_map.1 hx
    exact byteN_lt s k
  · intro hh
    rw [hh, List.map_map]; rfl

set_option maxRecDepth 100000 in
theorem enc2_iff (a b : Nat) (ha : a < 256) (hb : b < 256) (h128 : 128 ≤ a) :
    (Utf8.valid (((a : Int) - 192) * 64 + b - 128) = true ∧ encN (((a : Int) - 192) * 64 + b - 128).toNat = [a, b]) ↔ (a / 32 = 6 ∧ b / 64 = 2 ∧ 128 ≤ a % 32 * 64 + b % 64) := by
  constructor
  · rintro ⟨hv, he⟩
    obtain ⟨h0, hm⟩ := valid_le hv
    unfold encN at he
    split at he
    · simp at he
    split at he
    · simp only [List.cons.injEq, and_true] at he; omega
    split at he <;> simp at he
  · rintro ⟨h1, h2, h3⟩
    have e : (((a : Int) - 192) * 64 + b - 128).toNat = a % 32 * 64 + b % 64 := by omega
    refine ⟨?_, ?_⟩
    · rw [validRune_eq]; unfold validRune; simp; omega
    · rw [e]
      unfold encN
      rw [if_neg (by omega), if_pos (by omega)]
      simp only [List.cons.injEq, and_true]; omega

set_option maxRecDepth 100000 in
theorem enc3_iff (a b c : Nat) (ha : a < 256) (hb : b < 256) (hc : c < 256) (h128 : 128 ≤ a) :
    (Utf8.valid (((a : Int) - 224) * 4096 + ((b : Int) - 128) * 64 + c - 128) = true ∧ encN (((a : Int) - 224) * 4096 + ((b : Int) - 128) * 64 + c - 128).toNat = [a, b, c]) ↔
      (a / 16 = 14 ∧ b / 64 = 2 ∧ c / 64 = 2 ∧ 2048 ≤ a % 16 * 4096 + b % 64 * 64 + c % 64 ∧ Utf8.valid ((a % 16 * 4096 + b % 64 * 64 + c % 64 : Nat) : Int) = true) := by
  constructor
  · rintro ⟨hv, he⟩
    obtain ⟨h0, hm⟩ := valid_le hv
    unfold encN at he
    split at he
    · simp at he
    split at he
    · simp at he
    split at he
    · simp only [List.cons.injEq, and_true] at he
      have e : ((a % 16 * 4096 + b % 64 * 64 + c % 64 : Nat) : Int) = ((a : Int) - 224) * 4096 + ((b : Int) - 128) * 64 + c - 128 := by omega
      rw [e]
      refine ⟨by omega, by omega, by omega, by omega, hv⟩
    · simp at he
  · rintro ⟨h1, h2, h3, h4, hv⟩
    have e : ((a : Int) - 224) * 4096 + ((b : Int) - 128) * 64 + c - 128 = ((a % 16 * 4096 + b % 64 * 64 + c % 64 : Nat) : Int) := by omega
    rw [e, Int.toNat_natCast]
    refine ⟨hv, ?_⟩
    unfold encN
    rw [if_neg (by omega), if_neg (by omega), if_pos (by omega)]
    simp only [List.cons.injEq, and_true]; omega

set_option maxRecDepth 100000 in
theorem enc4_iff (a b c d : Nat) (ha : a < 256) (hb : b < 256) (hc : c < 256) (hd : d < 256) (h128 : 128 ≤ a) :
    (Utf8.valid (((a : Int) - 240) * 262144 + ((b : Int) - 128) * 4096 + ((c : Int) - 128) * 64 + d - 128) = true ∧ encN (((a : Int) - 240) * 262144 + ((b : Int) - 128) * 4096 + ((c : Int) - 128) * 64 + d - 128).toNat = [a, b, c, d]) ↔
      (a / 8 = 30 ∧ b / 64 = 2 ∧ c / 64 = 2 ∧ d / 64 = 2 ∧ 65536 ≤ a % 8 * 262144 + b % 64 * 4096 + c % 64 * 64 + d % 64 ∧ Utf8.valid ((a % 8 * 262144 + b % 64 * 4096 + c % 64 * 64 + d % 64 : Nat) : Int) = true) := by
  constructor
  · rintro ⟨hv, he⟩
    obtain ⟨h0, hm⟩ := valid_le hv
    unfold encN at he
    split at he
    · simp at he
    split at he
    · simp at he
    split at he
    · simp at he
    · simp only [List.cons.injEq, and_true] at he
      have e : ((a % 8 * 262144 + b % 64 * 4096 + c % 64 * 64 + d % 64 : Nat) : Int) = ((a : Int) - 240) * 262144 + ((b : Int) - 128) * 4096 + ((c : Int) - 128) * 64 + d - 128 := by omega
      rw [e]
      refine ⟨by omega, by omega, by omega, by omega, by omega, hv⟩
  · rintro ⟨h1, h2, h3, h4, h5, hv⟩
    have e : ((a : Int) - 240) * 262144 + ((b : Int) - 128) * 4096 + ((c : Int) - 128) * 64 + d - 128 = ((a % 8 * 262144 + b % 64 * 4096 + c % 64 * 64 + d % 64 : Nat) : Int) := by omega
    rw [e, Int.toNat_natCast]
    refine ⟨hv, ?_⟩
    unfold encN
    rw [if_neg (by omega), if_neg (by omega), if_neg (by omega)]
    simp only [List.cons.injEq, and_true]; omega

/-! ### Decode -/
def c2 (s : ByteArray) : Nat := byteN s 0 % 32 * 64 + byteN s 1 % 64
def c3 (s : ByteArray) : Nat := byteN s 0 % 16 * 4096 + byteN s 1 % 64 * 64 + byteN s 2 % 64
def c4 (s : ByteArray) : Nat := byteN s 0 % 8 * 262144 + byteN s 1 % 64 * 4096 + byteN s 2 % 64 * 64 + byteN s 3 % 64

theorem dec0 (s : ByteArray) (h0 : 0 < s.size) : Utf8.decode s 0 =
    if byteN s 0 < 128 then (byteN s 0, 1)
    else if byteN s 0 / 32 = 6 ∧ 1 < s.size ∧ byteN s 1 / 64 = 2 then (if 128 ≤ c2 s then (c2 s, 2) else (65533, 1))
    else if (byteN s 0 / 16 = 14 ∧ 1 < s.size ∧ byteN s 1 / 64 = 2) ∧ 2 < s.size ∧ byteN s 2 / 64 = 2 then (if 2048 ≤ c3 s ∧ Utf8.valid (c3 s : Int) = true then (c3 s, 3) else (65533, 1))
    else if ((byteN s 0 / 8 = 30 ∧ 1 < s.size ∧ byteN s 1 / 64 = 2) ∧ 2 < s.size ∧ byteN s 2 / 64 = 2) ∧ 3 < s.size ∧ byteN s 3 / 64 = 2 then (if 65536 ≤ c4 s ∧ Utf8.valid (c4 s : Int) = true then (c4 s, 4) else (65533, 1))
    else (65533, 1) := by
  unfold Utf8.decode
  simp only [Nat.zero_add, Bool.and_eq_true, decide_eq_true_eq, beq_iff_eq, ge_iff_le, Utf8.runeError]
  rfl

theorem j2_ev (s : ByteArray) (m : Nat) (n : Int) (r : Int × Int) (hm : m ≤ s.size) (hm4 : m ≤ 4)
    (hhit : Utf8.valid n = true → encN n.toNat = (List.range m).map (byteN s) → r = (n, (m : Int)))
    (hmiss : ¬ (Utf8.valid n = true ∧ encN n.toNat = (List.range m).map (byteN s)) → Ev (fun k => atriumref15_Decode.l0 k s ((m + 1 : Nat) : Int)) r) :
    Ev (fun k => atriumref15_Decode.j2 k s (m : Int) n) r := by
  refine Ev.step (fun k => by simp only [atriumref15_Decode.j2]; exact rfl) ?_
  simp only [isRune_eq, Option.bind_some, wrap64_succ (show m < 9223372036854775807 by omega)]
  cases hv : Utf8.valid n with
  | false =>
    simp only [Bool.false_eq_true, if_false]
    exact hmiss (by simp [hv])
  | true =>
    obtain ⟨h0, h1⟩ := valid_le hv
    simp only [if_true, bytes_eq n hv, Option.bind_some, if_pos (show (0 : Int) ≤ (m : Int) by omega), if_pos (show (m : Int) ≤ (s.size : Int) by omega), Int.toNat_natCast]
    by_cases he : encN n.toNat = (List.range m).map (byteN s)
    · simp only [if_pos ((prefix_iff s m hm n hv).2 he)]
      rw [hhit hv he, wrap32_id (by omega) (by omega)]
      exact Ev.now _
    · simp only [if_neg (fun h => he ((prefix_iff s m hm n hv).1 h))]
      exact hmiss (by simp [he])

theorem l0_end (s : ByteArray) (m : Nat) (h : 4 < m ∨ s.size < m) : Ev (fun k => atriumref15_Decode.l0 k s (m : Int)) (65533, 1) := by
  have hj : Ev (fun k => atriumref15_Decode.j1 k s (m : Int) false) (65533, 1) := by
    refine Ev.step (fun k => by simp only [atriumref15_Decode.j1]; exact rfl) ?_
    simp only [Bool.false_eq_true, if_false]
    exact Ev.now _
  refine Ev.step (fun k => by simp only [atriumref15_Decode.l0]; exact rfl) ?_
  by_cases h4 : m ≤ 4
  · simp only [if_pos (show (m : Int) ≤ 4 by omega), decide_eq_false (show ¬ (m : Int) ≤ (s.size : Int) by omega)]
    exact hj
  · simp only [if_neg (show ¬ (m : Int) ≤ 4 by omega)]
    exact hj

theorem j1_of (s : ByteArray) (m : Nat) (r : Int × Int) (h4 : m ≤ 4) (hs : m ≤ s.size) (h : Ev (fun k => atriumref15_Decode.j1 k s (m : Int) true) r) : Ev (fun k => atriumref15_Decode.l0 k s (m : Int)) r := by
  refine Ev.step (fun k => by simp only [atriumref15_Decode.l0]; exact rfl) ?_
  simp only [if_pos (show (m : Int) ≤ 4 by omega), decide_eq_true (show (m : Int) ≤ (s.size : Int) by omega)]
  exact h

theorem l0_1 (s : ByteArray) (r : Int × Int) (hs : 1 ≤ s.size) (h : Ev (fun k => atriumref15_Decode.j2 k s ((1 : Nat) : Int) (byteN s 0 : Int)) r) : Ev (fun k => atriumref15_Decode.l0 k s ((1 : Nat) : Int)) r := by
  refine j1_of s 1 r (by omega) hs ?_
  have b0 := bt_byteN s 0 (by omega)
  have q0 := byteN_lt s 0
  refine Ev.step (fun k => by simp only [atriumref15_Decode.j1]; exact rfl) ?_
  simp only [if_true, if_pos (show ((1 : Nat) : Int) = 1 by rfl), if_pos (show (0 : Int) < (s.size : Int) by omega)]
  rw [show wrap64 (bt s 0) = (byteN s 0 : Int) by rw [show bt s 0 = (byteN s 0 : Int) from b0]; exact wrap64_id (by omega) (by omega)]
  exact h

theorem l0_2 (s : ByteArray) (r : Int × Int) (hs : 2 ≤ s.size) (h : Ev (fun k => atriumref15_Decode.j2 k s ((2 : Nat) : Int) (((byteN s 0 : Int) - 192) * 64 + (byteN s 1 : Int) - 128)) r) : Ev (fun k => atriumref15_Decode.l0 k s ((2 : Nat) : Int)) r := by
  refine j1_of s 2 r (by omega) hs ?_
  have b0 : bt s 0 = (byteN s 0 : Int) := bt_byteN s 0 (by omega)
  have b1 : bt s 1 = (byteN s 1 : Int) := bt_byteN s 1 (by omega)
  have q0 := byteN_lt s 0
  have q1 := byteN_lt s 1
  refine Ev.step (fun k => by simp only [atriumref15_Decode.j1]; exact rfl) ?_
  simp only [if_true, if_neg (show ¬ ((2 : Nat) : Int) = 1 by decide), if_pos (show ((2 : Nat) : Int) = 2 by rfl), if_pos (show (0 : Int) < (s.size : Int) by omega), if_pos (show (1 : Int) < (s.size : Int) by omega), b0, b1]
  rw [show wrap64 (wrap64 (wrap64 (wrap64 (wrap64 (byteN s 0 : Int) - 192) * 64) + wrap64 (byteN s 1 : Int)) - 128) = ((byteN s 0 : Int) - 192) * 64 + (byteN s 1 : Int) - 128 by simp (disch := omega) only [wrap64_id]]
  exact h

theorem l0_3 (s : ByteArray) (r : Int × Int) (hs : 3 ≤ s.size) (h : Ev (fun k => atriumref15_Decode.j2 k s ((3 : Nat) : Int) (((byteN s 0 : Int) - 224) * 4096 + ((byteN s 1 : Int) - 128) * 64 + (byteN s 2 : Int) - 128)) r) : Ev (fun k => atriumref15_Decode.l0 k s ((3 : Nat) : Int)) r := by
  refine j1_of s 3 r (by omega) hs ?_
  have b0 : bt s 0 = (byteN s 0 : Int) := bt_byteN s 0 (by omega)
  have b1 : bt s 1 = (byteN s 1 : Int) := bt_byteN s 1 (by omega)
  have b2 : bt s 2 = (byteN s 2 : Int) := bt_byteN s 2 (by omega)
  have q0 := byteN_lt s 0
  have q1 := byteN_lt s 1
  have q2 := byteN_lt s 2
  refine Ev.step (fun k => by simp only [atriumref15_Decode.j1]; exact rfl) ?_
  simp only [if_true, if_neg (show ¬ ((3 : Nat) : Int) = 1 by decide), if_neg (show ¬ ((3 : Nat) : Int) = 2 by decide), if_pos (show ((3 : Nat) : Int) = 3 by rfl), if_pos (show (0 : Int) < (s.size : Int) by omega), if_pos (show (1 : Int) < (s.size : Int) by omega), if_pos (show (2 : Int) < (s.size : Int) by omega), b0, b1, b2]
  rw [show wrap64 (wrap64 (wrap64 (wrap64 (wrap64 (wrap64 (byteN s 0 : Int) - 224) * 4096) + wrap64 (wrap64 (wrap64 (byteN s 1 : Int) - 128) * 64)) + wrap64 (byteN s 2 : Int)) - 128) = ((byteN s 0 : Int) - 224) * 4096 + ((byteN s 1 : Int) - 128) * 64 + (byteN s 2 : Int) - 128 by simp (disch := omega) only [wrap64_id]]
  exact h

theorem l0_4 (s : ByteArray) (r : Int × Int) (hs : 4 ≤ s.size) (h : Ev (fun k => atriumref15_Decode.j2 k s ((4 : Nat) : Int) (((byteN s 0 : Int) - 240) * 262144 + ((byteN s 1 : Int) - 128) * 4096 + ((byteN s 2 : Int) - 128) * 64 + (byteN s 3 : Int) - 128)) r) : Ev (fun k => atriumref15_Decode.l0 k s ((4 : Nat) : Int)) r := by
  refine j1_of s 4 r (by omega) hs ?_
  have b0 : bt s 0 = (byteN s 0 : Int) := bt_byteN s 0 (by omega)
  have b1 : bt s 1 = (byteN s 1 : Int) := bt_byteN s 1 (by omega)
  have b2 : bt s 2 = (byteN s 2 : Int) := bt_byteN s 2 (by omega)
  have b3 : bt s 3 = (byteN s 3 : Int) := bt_byteN s 3 (by omega)
  have q0 := byteN_lt s 0
  have q1 := byteN_lt s 1
  have q2 := byteN_lt s 2
  have q3 := byteN_lt s 3
  refine Ev.step (fun k => by simp only [atriumref15_Decode.j1]; exact rfl) ?_
  simp only [if_true, if_neg (show ¬ ((4 : Nat) : Int) = 1 by decide), if_neg (show ¬ ((4 : Nat) : Int) = 2 by decide), if_neg (show ¬ ((4 : Nat) : Int) = 3 by decide), if_pos (show ((4 : Nat) : Int) = 4 by rfl), if_pos (show (0 : Int) < (s.size : Int) by omega), if_pos (show (1 : Int) < (s.size : Int) by omega), if_pos (show (2 : Int) < (s.size : Int) by omega), if_pos (show (3 : Int) < (s.size : Int) by omega), b0, b1, b2, b3]
  rw [show wrap64 (wrap64 (wrap64 (wrap64 (wrap64 (wrap64 (wrap64 (byteN s 0 : Int) - 240) * 262144) + wrap64 (wrap64 (wrap64 (byteN s 1 : Int) - 128) * 4096)) + wrap64 (wrap64 (wrap64 (byteN s 2 : Int) - 128) * 64)) + wrap64 (byteN s 3 : Int)) - 128) = ((byteN s 0 : Int) - 240) * 262144 + ((byteN s 1 : Int) - 128) * 4096 + ((byteN s 2 : Int) - 128) * 64 + (byteN s 3 : Int) - 128 by simp (disch := omega) only [wrap64_id]]
  exact h

end Go.Proofs.YtkekkabelnmlnaaDoor.Pure
/- The reference's Decode, Runes, Valid and Count are the model's own range: joined. -/
namespace Go.Proofs.YtkekkabelnmlnaaDoor.Pure
set_option linter.unusedVariables false
open Go.RowKit Go.Proofs.YtkekkabelnmlnaaDoor Go.Proofs.YtkekkabelnmlnaaDoor.PT Go.Proofs.YtkekkabelnmlnaaDoorW.PrintWords Go.Proofs.YtkekkabelnmlnaaDoorW.PrintLast

theorem range2 (s : ByteArray) : (List.range 2).map (byteN s) = [byteN s 0, byteN s 1] := rfl
theorem range3 (s : ByteArray) : (List.range 3).map (byteN s) = [byteN s 0, byteN s 1, byteN s 2] := rfl
theorem range4 (s : ByteArray) : (List.range 4).map (byteN s) = [byteN s 0, byteN s 1, byteN s 2, byteN s 3] := rfl

set_option maxRecDepth 100000 in
theorem refDecode_l0 (s : ByteArray) (h0 : 0 < s.size) : Ev (fun k => atriumref15_Decode.l0 k s 1) (((Utf8.decode s 0).1 : Int), ((Utf8.decode s 0).2 : Int)) := by
  have q0 := byteN_lt s 0
  have q1 := byteN_lt s 1
  have q2 := byteN_lt s 2
  have q3 := byteN_lt s 3
  have d0 := dec0 s h0
  refine l0_1 s _ (by omega) (j2_ev s 1 _ _ (by omega) (by omega) ?_ ?_)
  · intro hv he
    have hlt : byteN s 0 < 128 := by
      rw [Int.toNat_natCast] at he
      rcases Nat.lt_or_ge (byteN s 0) 128 with hlt | hge
      · exact hlt
      · rw [encN, if_neg (by omega), if_pos (by omega)] at he
        exact absurd (congrArg List.length he) (by simp)
    rw [d0, if_pos hlt]
  intro hmiss
  have hge : ¬ byteN s 0 < 128 := fun hlt => hmiss ⟨by rw [validRune_eq]; unfold validRune; simp; omega, by rw [Int.toNat_natCast]; unfold encN; rw [if_pos hlt]; rfl⟩
  rw [if_neg hge] at d0
  rcases Nat.lt_or_ge s.size 2 with hs2 | hs2
  · rw [if_neg (by omega), if_neg (by omega), if_neg (by omega)] at d0
    rw [d0]
    exact l0_end s 2 (by omega)
  have i2 := enc2_iff (byteN s 0) (byteN s 1) q0 q1 (by omega)
  change _ ↔ (byteN s 0 / 32 = 6 ∧ byteN s 1 / 64 = 2 ∧ 128 ≤ c2 s) at i2
  refine l0_2 s _ hs2 (j2_ev s 2 _ _ hs2 (by omega) ?_ ?_)
  · intro hv he
    rw [range2] at he
    obtain ⟨a1, a2, a3⟩ := i2.1 ⟨hv, he⟩
    rw [if_pos ⟨a1, by omega, a2⟩, if_pos a3] at d0
    rw [d0]
    unfold c2 at a3 ⊢
    simp only [Prod.mk.injEq]
    constructor
    · omega
    · trivial
  intro hmiss2
  rw [range2, i2] at hmiss2
  rcases Nat.lt_or_ge s.size 3 with hs3 | hs3
  · have : Utf8.decode s 0 = (65533, 1) := by
      rw [d0]
      by_cases hx : byteN s 0 / 32 = 6 ∧ 1 < s.size ∧ byteN s 1 / 64 = 2
      · rw [if_pos hx, if_neg (fun h => hmiss2 ⟨hx.1, hx.2.2, h⟩)]
      · rw [if_neg hx, if_neg (by omega), if_neg (by omega)]
    rw [this]
    exact l0_end s 3 (by omega)
  have i3 := enc3_iff (byteN s 0) (byteN s 1) (byteN s 2) q0 q1 q2 (by omega)
  change _ ↔ (byteN s 0 / 16 = 14 ∧ byteN s 1 / 64 = 2 ∧ byteN s 2 / 64 = 2 ∧ 2048 ≤ c3 s ∧ Utf8.valid (c3 s : Int) = true) at i3
  refine l0_3 s _ hs3 (j2_ev s 3 _ _ hs3 (by omega) ?_ ?_)
  · intro hv he
    rw [range3] at he
    obtain ⟨a1, a2, a3, a4, a5⟩ := i3.1 ⟨hv, he⟩
    rw [if_neg (by omega), if_pos ⟨⟨a1, by omega, a2⟩, by omega, a3⟩, if_pos ⟨a4, a5⟩] at d0
    rw [d0]
    unfold c3 at a4 ⊢
    simp only [Prod.mk.injEq]
    constructor
    · omega
    · trivial
  intro hmiss3
  rw [range3, i3] at hmiss3
  rcases Nat.lt_or_ge s.size 4 with hs4 | hs4
  · have : Utf8.decode s 0 = (65533, 1) := by
      rw [d0]
      by_cases hx : byteN s 0 / 32 = 6 ∧ 1 < s.size ∧ byteN s 1 / 64 = 2
      · rw [if_pos hx, if_neg (fun h => hmiss2 ⟨hx.1, hx.2.2, h⟩)]
      rw [if_neg hx]
      by_cases hy : (byteN s 0 / 16 = 14 ∧ 1 < s.size ∧ byteN s 1 / 64 = 2) ∧ 2 < s.size ∧ byteN s 2 / 64 = 2
      · rw [if_pos hy, if_neg (fun h => hmiss3 ⟨hy.1.1, hy.1.2.2, hy.2.2, h.1, h.2⟩)]
      · rw [if_neg hy, if_neg (by omega)]
    rw [this]
    exact l0_end s 4 (by omega)
  have i4 := enc4_iff (byteN s 0) (byteN s 1) (byteN s 2) (byteN s 3) q0 q1 q2 q3 (by omega)
  change _ ↔ (byteN s 0 / 8 = 30 ∧ byteN s 1 / 64 = 2 ∧ byteN s 2 / 64 = 2 ∧ byteN s 3 / 64 = 2 ∧ 65536 ≤ c4 s ∧ Utf8.valid (c4 s : Int) = true) at i4
  refine l0_4 s _ hs4 (j2_ev s 4 _ _ hs4 (by omega) ?_ ?_)
  · intro hv he
    rw [range4] at he
    obtain ⟨a1, a2, a3, a4, a5, a6⟩ := i4.1 ⟨hv, he⟩
    rw [if_neg (by omega), if_neg (by omega), if_pos ⟨⟨⟨a1, by omega, a2⟩, by omega, a3⟩, by omega, a4⟩, if_pos ⟨a5, a6⟩] at d0
    rw [d0]
    unfold c4 at a5 ⊢
    simp only [Prod.mk.injEq]
    constructor
    · omega
    · trivial
  intro hmiss4
  rw [range4, i4] at hmiss4
  have : Utf8.decode s 0 = (65533, 1) := by
    rw [d0]
    by_cases hx : byteN s 0 / 32 = 6 ∧ 1 < s.size ∧ byteN s 1 / 64 = 2
    · rw [if_pos hx, if_neg (fun h => hmiss2 ⟨hx.1, hx.2.2, h⟩)]
    rw [if_neg hx]
    by_cases hy : (byteN s 0 / 16 = 14 ∧ 1 < s.size ∧ byteN s 1 / 64 = 2) ∧ 2 < s.size ∧ byteN s 2 / 64 = 2
    · rw [if_pos hy, if_neg (fun h => hmiss3 ⟨hy.1.1, hy.1.2.2, hy.2.2, h.1, h.2⟩)]
    rw [if_neg hy]
    by_cases hz : ((byteN s 0 / 8 = 30 ∧ 1 < s.size ∧ byteN s 1 / 64 = 2) ∧ 2 < s.size ∧ byteN s 2 / 64 = 2) ∧ 3 < s.size ∧ byteN s 3 / 64 = 2
    · rw [if_pos hz, if_neg (fun h => hmiss4 ⟨hz.1.1.1, hz.1.1.2.2, hz.1.2.2, hz.2.2, h.1, h.2⟩)]
    · rw [if_neg hz]
  rw [this]
  exact l0_end s 5 (by omega)

theorem toList_nil (s : ByteArray) : s.toList = ([] : List UInt8) ↔ s.size = 0 := by
  rw [ByteArray.toList_eq]
  constructor
  · intro h
    have : s.data.toList.length = 0 := by rw [h]; rfl
    rw [Array.length_toList] at this; exact this
  · intro h
    exact List.eq_nil_of_length_eq_zero (by rw [Array.length_toList]; exact h)

theorem refDecode_ev (s : ByteArray) (h : s.size ≠ 0) : Ev (fun k => atriumref15_Decode.f k s) (((Utf8.decode s 0).1 : Int), ((Utf8.decode s 0).2 : Int)) := by
  simp only [atriumref15_Decode.f, if_neg (fun h' => h ((toList_nil s).1 h'))]
  exact refDecode_l0 s (by omega)

/-- What stands from p on. -/
def from_ (s : ByteArray) (p : Nat) : ByteArray := s.extract p s.size
theorem from_size (s : ByteArray) (p : Nat) : (from_ s p).size = s.size - p := by simp [from_, ByteArray.size_extract]
theorem from_zero (s : ByteArray) : from_ s 0 = s := by
  apply data_inj
  have hl : s.data.toList.length = s.size := Array.length_toList
  rw [from_, ByteArray.data_extract, Array.toList_extract, List.extract_eq_take_drop, List.drop_zero, Nat.sub_zero, List.take_of_length_le (by omega)]
theorem from_from (s : ByteArray) (p q : Nat) : (from_ s p).extract q (from_ s p).size = from_ s (p + q) := by
  apply data_inj
  have hl : s.data.toList.length = s.size := Array.length_toList
  rw [from_size]
  simp only [from_, ByteArray.data_extract, Array.toList_extract, List.extract_eq_take_drop]
  rw [List.take_of_length_le (l := s.data.toList.drop p) (by rw [List.length_drop]; omega), List.drop_drop, List.take_of_length_le (by rw [List.length_drop]; omega), List.take_of_length_le (by rw [List.length_drop]; omega)]

theorem runesOf_loop (s : ByteArray) (f : Nat) : ∀ (p : Nat) (acc : List Int), s.size ≤ p + f → p ≤ s.size → acc.length + (rnFrom s f p).length < 35184372088832 →
    Ev (fun k => atriumref15_Runes.l0 k (from_ s p) acc) (acc ++ (rnFrom s f p).map fun x => (x.1 : Int)) := by
  induction f with
  | zero =>
    intro p acc h1 h2 h3
    refine Ev.step (fun k => by simp only [atriumref15_Runes.l0]; exact rfl) ?_
    simp only [if_pos ((toList_nil (from_ s p)).2 (by rw [from_size]; omega)), rnFrom, List.map_nil, List.append_nil]
    exact Ev.now _
  | succ f ih =>
    intro p acc h1 h2 h3
    by_cases hp : p < s.size
    · have hd := dec_pos s p hp
      have hf := dec_fits s p hp
      have he : Utf8.decode (from_ s p) 0 = Utf8.decode s p := decode_extract s p hp
      have hz := from_size s p
      simp only [rnFrom, hp, if_true, List.length_cons] at h3
      refine Ev.step (fun k => by simp only [atriumref15_Runes.l0]; exact rfl) ?_
      simp only [if_neg (fun h' => absurd ((toList_nil (from_ s p)).1 h') (by omega))]
      refine Ev.bind (refDecode_ev (from_ s p) (by omega)) ?_
      simp only [he, if_pos (show acc.length < 35184372088832 by omega), if_pos (show (0 : Int) ≤ ((Utf8.decode s p).2 : Int) by omega), if_pos (show ((Utf8.decode s p).2 : Int) ≤ ((from_ s p).size : Int) by omega), Int.toNat_natCast, from_from]
      have := ih (p + (Utf8.decode s p).2) (acc ++ [((Utf8.decode s p).1 : Int)]) (by omega) hf (by simp; omega)
      simp only [rnFrom, hp, if_true, List.map_cons]
      rw [show acc ++ ((Utf8.decode s p).1 : Int) :: List.map (fun x => (x.1 : Int)) (rnFrom s f (p + (Utf8.decode s p).2)) = acc ++ [((Utf8.decode s p).1 : Int)] ++ List.map (fun x => (x.1 : Int)) (rnFrom s f (p + (Utf8.decode s p).2)) by simp]
      exact this
    · refine Ev.step (fun k => by simp only [atriumref15_Runes.l0]; exact rfl) ?_
      simp only [if_pos ((toList_nil (from_ s p)).2 (by rw [from_size]; omega)), rnFrom_end s _ p hp, List.map_nil, List.append_nil]
      exact Ev.now _

theorem refRunes_ev (s : ByteArray) (hs : s.size < 35184372088832) : Ev (fun k => atriumref15_Runes.f k s) (runeInts s) := by
  have h := runesOf_loop s s.size 0 [] (by omega) (by omega) (by have := rnFrom_len s s.size 0 (by omega); simp; omega)
  rw [from_zero] at h
  exact h

theorem valid_loop (s : ByteArray) (f : Nat) : ∀ (p : Nat), s.size ≤ p + f → p ≤ s.size → Ev (fun k => atriumref15_Valid.l0 k (from_ s p)) ((rnFrom s f p).all okRune) := by
  induction f with
  | zero =>
    intro p h1 h2
    refine Ev.step (fun k => by simp only [atriumref15_Valid.l0]; exact rfl) ?_
    simp only [if_pos ((toList_nil (from_ s p)).2 (by rw [from_size]; omega)), rnFrom, List.all_nil]
    exact Ev.now _
  | succ f ih =>
    intro p h1 h2
    by_cases hp : p < s.size
    · have hd := dec_pos s p hp
      have hf := dec_fits s p hp
      have he : Utf8.decode (from_ s p) 0 = Utf8.decode s p := decode_extract s p hp
      have hz := from_size s p
      refine Ev.step (fun k => by simp only [atriumref15_Valid.l0]; exact rfl) ?_
      simp only [if_neg (fun h' => absurd ((toList_nil (from_ s p)).1 h') (by omega))]
      refine Ev.bind (refDecode_ev (from_ s p) (by omega)) ?_
      have hn := ih (p + (Utf8.decode s p).2) (by omega) hf
      simp only [he, if_pos (show (0 : Int) ≤ ((Utf8.decode s p).2 : Int) by omega), if_pos (show ((Utf8.decode s p).2 : Int) ≤ ((from_ s p).size : Int) by omega), Int.toNat_natCast, from_from]
      simp only [rnFrom, hp, if_true, List.all_cons, okRune]
      by_cases e1 : (Utf8.decode s p).1 = 65533
      · by_cases e2 : (Utf8.decode s p).2 = 1
        · simp only [if_pos (show ((Utf8.decode s p).1 : Int) = 65533 by omega), if_pos (show ((Utf8.decode s p).2 : Int) = 1 by omega)]
          rw [show ((Utf8.decode s p).1 != 65533 || decide (1 < (Utf8.decode s p).2)) = false by simp [e1, e2]]
          exact Ev.now _
        · simp only [if_pos (show ((Utf8.decode s p).1 : Int) = 65533 by omega), if_neg (show ¬ ((Utf8.decode s p).2 : Int) = 1 by omega)]
          rw [show ((Utf8.decode s p).1 != 65533 || decide (1 < (Utf8.decode s p).2)) = true by simp [e1]; omega]
          exact hn
      · simp only [if_neg (show ¬ ((Utf8.decode s p).1 : Int) = 65533 by omega)]
        rw [show ((Utf8.decode s p).1 != 65533 || decide (1 < (Utf8.decode s p).2)) = true by simp [e1]]
        exact hn
    · refine Ev.step (fun k => by simp only [atriumref15_Valid.l0]; exact rfl) ?_
      simp only [if_pos ((toList_nil (from_ s p)).2 (by rw [from_size]; omega)), rnFrom_end s _ p hp, List.all_nil]
      exact Ev.now _

theorem refValid_ev (s : ByteArray) : Ev (fun k => atriumref15_Valid.f k s) ((rn s).all okRune) := by
  have h := valid_loop s s.size 0 (by omega) (by omega)
  rw [from_zero] at h
  exact h

end Go.Proofs.YtkekkabelnmlnaaDoor.Pure
/- Proves that names, tokens, small letters and texts without blanks are of the program what the document says. Method: both sides are one plain function of the bytes (or runes) of the text. -/
namespace Go.Proofs.YtkekkabelnmlnaaDoor.Pure
set_option linter.unusedVariables false
open Go Go.RowKit Go.Proofs.YtkekkabelnmlnaaDoor Go.Proofs.YtkekkabelnmlnaaDoor.PT Go.Proofs.YtkekkabelnmlnaaDoorW.PrintWords Go.Proofs.YtkekkabelnmlnaaDoorW.PrintLast

theorem lives_ev : Ev (fun k => atriumlaw15_lives.f k) true := Ev.of atriumlaw15_lives.mono (k := 20) (by decide +kernel)

/-! ### Names -/
def hidI (x : Int) : Bool := hid x.toNat
theorem name_loop (l : List Int) (hl : l.length < 9223372036854775807) (hr : ∀ x ∈ l, 0 ≤ x ∧ x ≤ 1114111) (d : Nat) : ∀ i, i + d = l.length → Ev (fun k => atriumref15_Name.l0 k l (i : Int)) (!(l.drop i).any hidI) := by
  induction d with
  | zero =>
    intro i hi
    refine Ev.step (fun k => by simp only [atriumref15_Name.l0]; exact rfl) (evIfNeg (by omega) ?_)
    rw [List.drop_of_length_le (by omega)]
    exact Ev.now _
  | succ d ih =>
    intro i hi
    have hlt : i < l.length := by omega
    have hx := hr l[i] (List.getElem_mem hlt)
    have h1 := ih (i + 1) (by omega)
    have hrd : rd l (i : Int) = l[i] := by
      unfold rd
      rw [Int.toNat_natCast, List.getD_eq_getElem?_getD, List.getElem?_eq_getElem hlt]; rfl
    rw [List.drop_eq_getElem_cons hlt, List.any_cons]
    refine Ev.step (fun k => by simp only [atriumref15_Name.l0]; exact rfl) (evIfPos (by omega) (evIfPos (by omega) ?_))
    rw [hrd, wrap64_id (x := l[i]) (by omega) (by omega), wrap64_succ (by omega)]
    generalize l[i] = x at *
    have hh : hidI x = (decide (x < 32) || (decide (127 ≤ x) && decide (x ≤ 159)) || x == 8232 || x == 8233 || x == 65279) := by
      unfold hidI hid
      obtain ⟨n, rfl⟩ := Int.eq_ofNat_of_zero_le hx.1
      rw [Int.toNat_natCast]
      congr 1
      · congr 1
        · congr 1
          · congr 1
            · exact decide_eq_decide.2 (by omega)
            · congr 1
              · exact decide_eq_decide.2 (by omega)
              · exact decide_eq_decide.2 (by omega)
          · rw [Bool.eq_iff_iff]; simp; omega
        · rw [Bool.eq_iff_iff]; simp; omega
      · rw [Bool.eq_iff_iff]; simp; omega
    rw [hh]
    by_cases c1 : x < 32
    · rw [decide_eq_true c1]; exact evIfPos c1 (Ev.now _)
    · rw [decide_eq_false c1]
      refine evIfNeg c1 ?_
      by_cases c4 : x = 8232
      · subst c4
        exact evIfPos (by decide) (evIfNeg (by decide) (evIfPos rfl (Ev.now _)))
      · by_cases c5 : x = 8233
        · subst c5
          exact evIfPos (by decide) (evIfNeg (by decide) (evIfNeg (by decide) (evIfPos rfl (Ev.now _))))
        · by_cases c6 : x = 65279
          · subst c6
            exact evIfPos (by decide) (evIfNeg (by decide) (evIfNeg (by decide) (evIfNeg (by decide) (evIfPos rfl (Ev.now _)))))
          · rw [beq_eq_false_iff_ne.2 c4, beq_eq_false_iff_ne.2 c5, beq_eq_false_iff_ne.2 c6]
            by_cases c2 : 127 ≤ x
            · rw [decide_eq_true c2]
              refine evIfPos c2 ?_
              by_cases c3 : x ≤ 159
              · rw [decide_eq_true c3]; exact evIfPos c3 (Ev.now _)
              · rw [decide_eq_false c3]
                exact evIfNeg c3 (evIfNeg c4 (evIfNeg c5 (evIfNeg c6 (by simpa using h1))))
            · rw [decide_eq_false c2]
              exact evIfNeg c2 (evIfNeg c4 (evIfNeg c5 (evIfNeg c6 (by simpa using h1))))
theorem rn_le (s : ByteArray) : ∀ (f p : Nat) (y : Nat × Nat), y ∈ rnFrom s f p → y.1 ≤ 1114111
  | 0, p, y, h => by simp [rnFrom] at h
  | f + 1, p, y, h => by
    simp only [rnFrom] at h
    split at h
    · rcases List.mem_cons.1 h with rfl | h
      · exact dec_rune_le s p
      · exact rn_le s f _ y h
    · cases h
theorem hid_runes (s : ByteArray) : (runeInts s).any hidI = (rn s).any fun x => hid x.1 := by
  unfold runeInts
  rw [List.any_map]
  rfl
theorem refName_ev (s : ByteArray) (hs : s.size ≤ 140737488351232) : Ev (fun k => atriumref15_Name.f k s) (nameB s) := by
  unfold nameB
  by_cases h1 : 1 ≤ s.size
  · by_cases h2 : s.size ≤ 64
    · rw [decide_eq_true h1, decide_eq_true h2]
      refine evIfNeg (by omega) (evIfNeg (by omega) (Ev.bind (refValid_ev s) ?_))
      cases hv : (rn s).all okRune with
      | false => exact Ev.step (fun k => by simp only [atriumref15_Name.j0]; exact rfl) (evIfPos (show (!false) = true from rfl) (Ev.now _))
      | true =>
        refine Ev.step (fun k => by simp only [atriumref15_Name.j0]; exact rfl) (evIfNeg (show ¬ ((!true) = true) by decide) (Ev.bind (refRunes_ev s (by omega)) ?_))
        have hlen : (runeInts s).length ≤ 64 := by
          have h := rnFrom_len s s.size 0 (by omega)
          unfold runeInts rn
          rw [List.length_map]; omega
        have h := name_loop (runeInts s) (by omega) (fun x hx => by
          unfold runeInts rn at hx
          obtain ⟨y, hy, rfl⟩ := List.mem_map.1 hx
          have := rn_le s s.size 0 y hy
          omega) (runeInts s).length 0 (by omega)
        rw [List.drop_zero, hid_runes] at h
        exact h
    · rw [decide_eq_false h2, Bool.and_false, Bool.false_and]
      refine evIfNeg (by omega) (evIfPos (by omega) ?_)
      exact Ev.step (fun k => by simp only [atriumref15_Name.j0]; exact rfl) (evIfPos (show (true = true) from rfl) (Ev.now _))
  · rw [decide_eq_false h1, Bool.and_false, Bool.false_and, Bool.false_and]
    refine evIfPos (by omega) ?_
    exact Ev.step (fun k => by simp only [atriumref15_Name.j0]; exact rfl) (evIfPos (show (true = true) from rfl) (Ev.now _))

/-! ### Tokens -/
def marks : ByteArray := ⟨#[33, 35, 36, 37, 38, 39, 42, 43, 45, 46, 94, 95, 96, 124, 126]⟩
def tokC (c : UInt8) : Bool := (decide (97 ≤ c.toNat) && decide (c.toNat ≤ 122)) || (decide (65 ≤ c.toNat) && decide (c.toNat ≤ 90)) || (decide (48 ≤ c.toNat) && decide (c.toNat ≤ 57)) || marks.data.toList.contains c
def tokB (s : ByteArray) : Bool := s.data.toList.all tokC && decide (0 < s.size)
def lettB (c : UInt8) : Bool := (decide (97 ≤ c.toNat) && decide (c.toNat ≤ 122)) || (decide (65 ≤ c.toNat) && decide (c.toNat ≤ 90)) || (decide (48 ≤ c.toNat) && decide (c.toNat ≤ 57))
theorem pletter_byte (c : UInt8) : text_letter.f (c.toNat : Int) = some (lettB c) :=
  of_decide_eq_true (byte_all (fun c => decide (text_letter.f (c.toNat : Int) = some (lettB c))) (by decide +kernel) c)
theorem pmarks_byte (c : UInt8) : ∃ n : Int, strings_IndexByte.f marks (c.toNat : Int) = some n ∧ (n < 0 ↔ marks.data.toList.contains c = false) := by
  refine ⟨_, rfl, ?_⟩
  have h := byte_all (fun c => decide (Lib.indexByte marks.data.toList ((c.toNat : Int)).toNat.toUInt8 < 0) == !marks.data.toList.contains c) (by decide +kernel) c
  have h2 := eq_of_beq h
  constructor
  · intro hn
    rw [decide_eq_true hn] at h2
    simpa using h2.symm
  · intro hm
    rw [hm] at h2
    exact of_decide_eq_true h2
def lettR (c : UInt8) : Bool := (decide (97 ≤ c.toNat) && decide (c.toNat ≤ 122)) || (decide (65 ≤ c.toNat) && decide (c.toNat ≤ 90))
def digR (c : UInt8) : Bool := decide (48 ≤ c.toNat) && decide (c.toNat ≤ 57)
theorem rletter_byte (c : UInt8) : atriumref15_letter.f (c.toNat : Int) = some (lettR c) :=
  of_decide_eq_true (byte_all (fun c => decide (atriumref15_letter.f (c.toNat : Int) = some (lettR c))) (by decide +kernel) c)
theorem rdigit_byte (c : UInt8) : atriumref15_digit.f (c.toNat : Int) = some (digR c) :=
  of_decide_eq_true (byte_all (fun c => decide (atriumref15_digit.f (c.toNat : Int) = some (digR c))) (by decide +kernel) c)
theorem ramong_ev (c : UInt8) : Ev (fun k => atriumref15_among.f k marks (c.toNat : Int)) (marks.data.toList.contains c) :=
  Ev.of (fun k => atriumref15_among.mono marks (c.toNat : Int) k) (k := 20) (of_decide_eq_true (byte_all (fun c => decide (atriumref15_among.f 20 marks (c.toNat : Int) = some (marks.data.toList.contains c))) (by decide +kernel) c))
theorem drop_cons (s : ByteArray) (i : Nat) (h : i < s.size) : s.data.toList.drop i = (s[i]'h) :: s.data.toList.drop (i + 1) := by
  rw [List.drop_eq_getElem_cons (by rw [Array.length_toList]; exact h)]; rfl
theorem token_loop (s : ByteArray) (hs : s.size ≤ 140737488351232) (d : Nat) : ∀ i, i + d = s.size → Ev (fun k => text_Token.l0 k s (s.size : Int) (i : Int)) ((s.data.toList.drop i).all tokC && decide (0 < s.size)) := by
  induction d with
  | zero =>
    intro i hi
    refine Ev.step (fun k => by simp only [text_Token.l0]; exact rfl) (evIfNeg (by omega) ?_)
    have hl : s.data.toList.length = s.size := Array.length_toList
    rw [List.drop_of_length_le (by omega)]
    have e : (s.toList != ([] : List UInt8)) = decide (0 < s.size) := by
      by_cases hz : s.size = 0
      · rw [(toList_nil s).2 hz, hz]; rfl
      · rw [decide_eq_true (by omega), bne_iff_ne]
        exact fun h => hz ((toList_nil s).1 h)
    rw [e]
    exact Ev.now _
  | succ d ih =>
    intro i hi
    have h1 := ih (i + 1) (by omega)
    rw [drop_cons s i (by omega), List.all_cons]
    refine Ev.step (fun k => by simp only [text_Token.l0]; exact rfl) (evIfPos (by omega) (evIfPos (by omega) (evIfPos (by omega) ?_)))
    rw [bt_nat s i (by omega), wrap64_succ (by omega)]
    generalize s[i] = c at *
    have ht : tokC c = (lettB c || marks.data.toList.contains c) := rfl
    rw [ht]
    refine evBindc (pletter_byte c) ?_
    cases hb : lettB c with
    | true => exact evIfPos rfl (by simpa using h1)
    | false =>
      refine evIfNeg (by decide) ?_
      obtain ⟨n, hn, hc⟩ := pmarks_byte c
      refine evBindc hn ?_
      cases hm : marks.data.toList.contains c with
      | false => exact evIfPos (hc.2 hm) (Ev.now _)
      | true => exact evIfNeg (fun h => by rw [hc.1 h] at hm; cases hm) (by simpa using h1)
theorem rtoken_loop (s : ByteArray) (hs : s.size ≤ 140737488351232) (d : Nat) : ∀ i, i + d = s.size → Ev (fun k => atriumref15_Token.l0 k s (i : Int)) ((s.data.toList.drop i).all tokC && decide (0 < s.size)) := by
  induction d with
  | zero =>
    intro i hi
    refine Ev.step (fun k => by simp only [atriumref15_Token.l0]; exact rfl) (evIfNeg (by omega) ?_)
    have hl : s.data.toList.length = s.size := Array.length_toList
    rw [List.drop_of_length_le (by omega), show decide (0 < s.size) = decide ((s.size : Int) > 0) from decide_eq_decide.2 (by omega)]
    exact Ev.now _
  | succ d ih =>
    intro i hi
    have h1 := ih (i + 1) (by omega)
    rw [drop_cons s i (by omega), List.all_cons]
    refine Ev.step (fun k => by simp only [atriumref15_Token.l0]; exact rfl) (evIfPos (by omega) (evIfPos (by omega) ?_))
    rw [bt_nat s i (by omega), wrap64_succ (by omega)]
    generalize s[i] = c at *
    have ht : tokC c = (lettR c || digR c || marks.data.toList.contains c) := rfl
    rw [ht]
    refine evBindc (rletter_byte c) ?_
    cases hb1 : lettR c with
    | true => exact evIfPos rfl (by simpa using h1)
    | false =>
      refine evIfNeg (by decide) (evBindc (rdigit_byte c) ?_)
      cases hb2 : digR c with
      | true => exact evIfPos rfl (by simpa using h1)
      | false =>
        refine evIfNeg (by decide) (Ev.bind (ramong_ev c) ?_)
        cases hm : marks.data.toList.contains c with
        | false => exact evIfNeg (by decide) (Ev.now _)
        | true => exact evIfPos rfl (by simpa using h1)

/-! ### Blanks -/
theorem rdw_cons {α : Type} (p : α → Bool) (a : α) (l : List α) : ((a :: l).reverse.dropWhile p).reverse = if (l.reverse.dropWhile p).isEmpty && p a then [] else a :: (l.reverse.dropWhile p).reverse := by
  rw [List.reverse_cons, List.dropWhile_append]
  cases h : (l.reverse.dropWhile p) with
  | nil =>
    simp only [List.isEmpty_nil, if_true, Bool.true_and]
    cases hp : p a <;> simp [List.dropWhile, hp]
  | cons b t => simp
theorem trims_comm {α : Type} (p : α → Bool) : ∀ l : List α, ((l.reverse.dropWhile p).reverse).dropWhile p = ((l.dropWhile p).reverse.dropWhile p).reverse
  | [] => rfl
  | a :: l => by
    have ih := trims_comm p l
    cases hp : p a with
    | false =>
      rw [rdw_cons, hp, Bool.and_false]
      have h2 : (a :: l).dropWhile p = a :: l := by simp [List.dropWhile, hp]
      rw [h2, rdw_cons, hp, Bool.and_false]
      simp [List.dropWhile, hp]
    | true =>
      have h2 : (a :: l).dropWhile p = l.dropWhile p := by simp [List.dropWhile, hp]
      rw [h2, ← ih, rdw_cons, hp, Bool.and_true]
      cases h : (l.reverse.dropWhile p) with
      | nil => simp
      | cons b t => simp [List.dropWhile, hp]
def blank (c : UInt8) : Bool := [32, 9].contains c
theorem blank_iff (c : UInt8) : blank c = (decide ((c.toNat : Int) = 32) || decide ((c.toNat : Int) = 9)) := by
  have h := byte_all (fun c => blank c == (decide ((c.toNat : Int) = 32) || decide ((c.toNat : Int) = 9))) (by decide +kernel) c
  exact eq_of_beq h
theorem rtrim_loop (n : Nat) : ∀ s : ByteArray, s.size = n → n ≤ 140737488351232 → Ev (fun k => atriumref15_Trim.l1 k s) ⟨((s.data.toList.reverse.dropWhile blank).reverse).toArray⟩ := by
  induction n with
  | zero =>
    intro s hs _
    refine Ev.step (fun k => by simp only [atriumref15_Trim.l1]; exact rfl) (evIfPos ((toList_nil s).2 hs) ?_)
    have : s.data.toList = [] := List.eq_nil_of_length_eq_zero (by rw [Array.length_toList]; exact hs)
    rw [show (⟨((s.data.toList.reverse.dropWhile blank).reverse).toArray⟩ : ByteArray) = s from data_inj (by rw [this]; rfl)]
    exact Ev.now _
  | succ n ih =>
    intro s hs hb
    have hl : s.data.toList.length = n + 1 := by rw [Array.length_toList]; exact hs
    have hsplit : s.data.toList = s.data.toList.take n ++ [s[n]'(by omega)] := by
      have := List.take_succ_eq_append_getElem (l := s.data.toList) (i := n) (by omega)
      rw [List.take_of_length_le (by omega)] at this
      exact this
    have hx : (s.extract 0 n).data.toList = s.data.toList.take n := by
      simp [ByteArray.data_extract, List.extract_eq_take_drop]
    have h1 := ih (s.extract 0 n) (by simp [ByteArray.size_extract]; omega) (by omega)
    rw [hx] at h1
    refine Ev.step (fun k => by simp only [atriumref15_Trim.l1]; exact rfl) (evIfNeg (fun h => absurd ((toList_nil s).1 h) (by omega)) ?_)
    have hw : wrap64 ((s.size : Int) - 1) = ((n : Nat) : Int) := by rw [wrap64_id (by omega) (by omega)]; omega
    rw [hw, Int.toNat_natCast]
    refine evIfPos (by omega) (evIfPos (by omega) ?_)
    rw [bt_nat s n (by omega)]
    have hrev : s.data.toList.reverse = (s[n]'(by omega)) :: (s.data.toList.take n).reverse := by
      conv => lhs; rw [hsplit]
      rw [List.reverse_append]; rfl
    have hbl := blank_iff (s[n]'(by omega))
    by_cases c1 : (((s[n]'(by omega)).toNat : Nat) : Int) = 32
    · refine evIfPos c1 (evIfPos (by omega) ?_)
      rw [hrev, List.dropWhile_cons_of_pos (by rw [hbl, decide_eq_true c1]; rfl)]
      exact h1
    · refine evIfNeg c1 ?_
      by_cases c2 : (((s[n]'(by omega)).toNat : Nat) : Int) = 9
      · refine evIfPos c2 (evIfPos (by omega) ?_)
        rw [hrev, List.dropWhile_cons_of_pos (by rw [hbl, decide_eq_true c2, Bool.or_true])]
        exact h1
      · refine evIfNeg c2 ?_
        rw [show (⟨((s.data.toList.reverse.dropWhile blank).reverse).toArray⟩ : ByteArray) = s from data_inj (by
          rw [hrev, List.dropWhile_cons_of_neg (by rw [hbl, decide_eq_false c1, decide_eq_false c2]; decide), ← hrev]; simp)]
        exact Ev.now _
theorem ltrim_loop (n : Nat) : ∀ s : ByteArray, s.size = n → n ≤ 140737488351232 → Ev (fun k => atriumref15_Trim.l0 k s) ⟨(((s.data.toList.dropWhile blank).reverse.dropWhile blank).reverse).toArray⟩ := by
  induction n with
  | zero =>
    intro s hs hb
    refine Ev.step (fun k => by simp only [atriumref15_Trim.l0]; exact rfl) (evIfPos ((toList_nil s).2 hs) ?_)
    refine Ev.step (fun k => by simp only [atriumref15_Trim.j1]; exact rfl) ?_
    have h := rtrim_loop 0 s hs hb
    have : s.data.toList = [] := List.eq_nil_of_length_eq_zero (by rw [Array.length_toList]; exact hs)
    rw [this] at h ⊢
    exact h
  | succ n ih =>
    intro s hs hb
    have hl : s.data.toList.length = n + 1 := by rw [Array.length_toList]; exact hs
    have hcons : s.data.toList = (s[0]'(by omega)) :: s.data.toList.drop 1 := by
      have := drop_cons s 0 (by omega)
      rw [List.drop_zero] at this
      exact this
    have hx : (s.extract 1 s.size).data.toList = s.data.toList.drop 1 := by
      simp only [ByteArray.data_extract, Array.toList_extract, List.extract_eq_take_drop]
      rw [List.take_of_length_le (by rw [List.length_drop, hl]; omega)]
    have h1 := ih (s.extract 1 s.size) (by simp [ByteArray.size_extract]; omega) (by omega)
    rw [hx] at h1
    have hbl := blank_iff (s[0]'(by omega))
    refine Ev.step (fun k => by simp only [atriumref15_Trim.l0]; exact rfl) (evIfNeg (fun h => absurd ((toList_nil s).1 h) (by omega)) (evIfPos (by omega) ?_))
    rw [show bt s 0 = bt s ((0 : Nat) : Int) from rfl, bt_nat s 0 (by omega)]
    by_cases c1 : (((s[0]'(by omega)).toNat : Nat) : Int) = 32
    · refine evIfPos c1 (evIfPos (by omega) ?_)
      rw [hcons, List.dropWhile_cons_of_pos (by rw [hbl, decide_eq_true c1]; rfl)]
      exact h1
    · refine evIfNeg c1 ?_
      by_cases c2 : (((s[0]'(by omega)).toNat : Nat) : Int) = 9
      · refine evIfPos c2 (evIfPos (by omega) ?_)
        rw [hcons, List.dropWhile_cons_of_pos (by rw [hbl, decide_eq_true c2, Bool.or_true])]
        exact h1
      · refine evIfNeg c2 (Ev.step (fun k => by simp only [atriumref15_Trim.j1]; exact rfl) ?_)
        have h := rtrim_loop (n + 1) s hs hb
        rw [show s.data.toList.dropWhile blank = s.data.toList by
          conv => lhs; rw [hcons]
          rw [List.dropWhile_cons_of_neg (by rw [hbl, decide_eq_false c1, decide_eq_false c2]; decide), ← hcons]]
        exact h
theorem trim_same (s : ByteArray) : Lib.trimS s.data.toList [32, 9] = ((s.data.toList.dropWhile blank).reverse.dropWhile blank).reverse := trims_comm blank s.data.toList

theorem TextNames : atriumlaw15_TextNames.Pure := by
  intro s hs
  have e1 := token_loop s hs s.size 0 (by omega)
  have e2 := rtoken_loop s hs s.size 0 (by omega)
  have e3 := ltrim_loop s.size s rfl hs
  rw [← trim_same] at e3
  refine Ev.rounds (Ev.bind lives_ev (evIfPos rfl (evBindc (show text_Name.f s = some (nameB s) from if_pos (by omega)) (Ev.bind (refName_ev s hs) (evIfPos (by simp) (Ev.bind e1 (Ev.bind e2 (evIfPos (by simp) (evBindc (show text_Lower.f s = some (lowS s) from if_pos (by omega)) (evBindc (show atriumref15_Lower.f s = some (lowS s) from if_pos (by omega)) (evIfPos rfl (evBindc (show text_Trim.f s = some ⟨(Lib.trimS s.data.toList [32, 9]).toArray⟩ from if_pos (by omega)) (Ev.bind e3 ?_)))))))))))))
  simp only [beq_self_eq_true]
  exact Ev.now _
end Go.Proofs.YtkekkabelnmlnaaDoor.Pure
/- The law TextNames, walked by the print over its plain statement. -/
namespace Go.Proofs.YtkekkabelnmlnaaDoor
open Go
theorem names_walk (s : ByteArray) (W : World) (h : s.size ≤ 140737488351232) : Calls Tryd.prog 3 #[.string s] W fun e w' => e = .returned (.bool true) ∧ Go.RowKit.Below W.heap.size W w' :=
  PT.atriumlaw15_TextNames.walk Pure.TextNames s W h
end Go.Proofs.YtkekkabelnmlnaaDoor
