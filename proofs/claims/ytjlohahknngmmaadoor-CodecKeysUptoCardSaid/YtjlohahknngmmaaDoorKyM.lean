/- Plain laws of keys: what Split makes of a key. -/
import Derived.Test.YtjlohahknngmmaaDoorKyL
import Derived.Test.YtjlohahknngmmaaDoorPKx7
namespace Go.Proofs.YtjlohahknngmmaaDoor.Ky
open Go Go.RowKit Go.Op Go.Proofs.YtjlohahknngmmaaDoor Go.Proofs.YtjlohahknngmmaaDoor.PK Go.Proofs.YtjlohahknngmmaaDoorW.PrintWords Go.Proofs.YtjlohahknngmmaaDoorW.PrintLast
set_option linter.unusedVariables false
set_option linter.unusedSimpArgs false

theorem u64w {x : Int} (h : 0 ≤ x) (h' : x < 18446744073709551616) : IntKind.u64.wrap x = x := by
  show x % 18446744073709551616 = x
  omega
theorem bv_nat (m : Nat) (x : Nat) : BitVec.ofInt m (x : Int) = BitVec.ofNat m x := by
  apply BitVec.eq_of_toNat_eq
  rw [BitVec.toNat_ofInt, BitVec.toNat_ofNat]
  omega
theorem bits_or64 (x y : Nat) (hx : x < 18446744073709551616) (hy : y < 18446744073709551616) : Go.bits .or .u64 (x : Int) (y : Int) = ((x ||| y : Nat) : Int) := by
  show IntKind.u64.wrap ((BitVec.ofInt 64 (x : Int) ||| BitVec.ofInt 64 (y : Int)).toNat : Int) = _
  rw [bv_nat, bv_nat, BitVec.toNat_or, BitVec.toNat_ofNat, BitVec.toNat_ofNat, Nat.mod_eq_of_lt (by omega), Nat.mod_eq_of_lt (by omega)]
  have : x ||| y < 2 ^ 64 := Nat.or_lt_two_pow (by omega) (by omega)
  exact u64w (by omega) (by omega)

/-- Two numbers that share no bit. -/
theorem or_add (a b k : Nat) (ha : a < 2 ^ k) (hb : 2 ^ k * b + a < 18446744073709551616) : Go.bits .or .u64 ((2 ^ k * b : Nat) : Int) (a : Int) = ((2 ^ k * b + a : Nat) : Int) := by
  rw [bits_or64 _ _ (by omega) (by omega), Nat.two_pow_add_eq_or_of_lt ha]
theorem or_add' (a b k : Nat) (ha : a < 2 ^ k) (hb : 2 ^ k * b + a < 18446744073709551616) : Go.bits .or .u64 (a : Int) ((2 ^ k * b : Nat) : Int) = ((a + 2 ^ k * b : Nat) : Int) := by
  rw [bits_or64 _ _ (by omega) (by omega), Nat.or_comm, ← Nat.two_pow_add_eq_or_of_lt ha, Nat.add_comm]

theorem extract_rest (s : ByteArray) (p n : Nat) (h : p + n ≤ s.size) : (s.extract p s.size).extract 0 n = s.extract p (p + n) := by
  apply ByteArray.ext
  simp only [ByteArray.data_extract, Array.extract_extract]
  congr 1
  show min (p + n) s.size = p + n
  omega
theorem extract_rest2 (s : ByteArray) (p n : Nat) (h : p + n ≤ s.size) : (s.extract p s.size).extract n (s.extract p s.size).size = s.extract (p + n) s.size := by
  apply ByteArray.ext
  have : (s.extract p s.size).size = s.size - p := by simp [ByteArray.size_extract]
  rw [this]
  simp only [ByteArray.data_extract, Array.extract_extract]
  congr 1
  show min (p + (s.size - p)) s.size = s.size
  omega
theorem extract_size (s : ByteArray) (p : Nat) : (s.extract p s.size).size = s.size - p := by simp [ByteArray.size_extract]
theorem extract_all (s : ByteArray) : s.extract 0 s.size = s := by
  apply ByteArray.ext; simp
theorem strOfNums_size (l : List Int) : (strOfNums l).size = l.length := by
  have h : (strOfNums l).data.toList.length = l.length := by rw [strOfNums_data]; simp
  rw [Array.length_toList] at h
  exact h
/-! ### Numbers of bytes, the highest first -/
def beN (l : List Int) : Int := l.foldl (fun n c => n * 256 + c) 0
def IsBytes (l : List Int) : Prop := ∀ c ∈ l, 0 ≤ c ∧ c ≤ 255
theorem bytesOf_are (s : ByteArray) : IsBytes (bytesOf s) := by
  intro c hc
  simp only [bytesOf, List.mem_map] at hc
  obtain ⟨b, _, rfl⟩ := hc
  have := b.toNat_lt
  omega
theorem be_fold (l : List Int) : ∀ (n : Int) (j : Nat), IsBytes l → 0 ≤ n → n < 256 ^ j → 0 ≤ l.foldl (fun n c => n * 256 + c) n ∧ l.foldl (fun n c => n * 256 + c) n < 256 ^ (j + l.length) := by
  induction l with
  | nil => intro n j _ h0 h1; exact ⟨h0, h1⟩
  | cons c l ih =>
    intro n j hb h0 h1
    have hc := hb c (List.mem_cons_self ..)
    have h2 := ih (n * 256 + c) (j + 1) (fun x hx => hb x (List.mem_cons_of_mem _ hx)) (by omega) (by rw [Int.pow_succ]; omega)
    rw [List.length_cons, show j + (l.length + 1) = j + 1 + l.length by omega]
    exact h2
theorem be_range (l : List Int) (hb : IsBytes l) : 0 ≤ beN l ∧ beN l < 256 ^ l.length := by
  have h := be_fold l 0 0 hb (by decide) (by decide)
  rw [Nat.zero_add] at h
  exact h
theorem pow_le8 {j : Nat} (h : j ≤ 7) : (256 : Int) ^ j ≤ 72057594037927936 := by
  have : j = 0 ∨ j = 1 ∨ j = 2 ∨ j = 3 ∨ j = 4 ∨ j = 5 ∨ j = 6 ∨ j = 7 := by omega
  rcases this with rfl | rfl | rfl | rfl | rfl | rfl | rfl | rfl <;> decide
theorem or_byte (n c : Int) (h0 : 0 ≤ n) (h1 : n < 72057594037927936) (c0 : 0 ≤ c) (c1 : c ≤ 255) : Go.bits .or .u64 (IntKind.u64.wrap (n * 256)) (IntKind.u64.wrap c) = n * 256 + c := by
  rw [u64w (by omega) (by omega), u64w (by omega) (by omega)]
  obtain ⟨n, rfl⟩ := Int.eq_ofNat_of_zero_le h0
  obtain ⟨c, rfl⟩ := Int.eq_ofNat_of_zero_le c0
  have h := or_add c n 8 (by omega) (by omega)
  have e : ((2 ^ 8 * n : Nat) : Int) = (n : Int) * 256 := by omega
  rw [e] at h
  rw [h]; omega
theorem read_fold (l : List Int) : ∀ (n : Int) (j : Nat), IsBytes l → 0 ≤ n → n < 256 ^ j → j + l.length ≤ 8 →
    l.foldl (fun n c => Go.bits .or .u64 (IntKind.u64.wrap (n * 256)) (IntKind.u64.wrap c)) n = l.foldl (fun n c => n * 256 + c) n := by
  induction l with
  | nil => intro n j _ _ _ _; rfl
  | cons c l ih =>
    intro n j hb h0 h1 hj
    rw [List.length_cons] at hj
    have hc := hb c (List.mem_cons_self ..)
    have hp := pow_le8 (j := j) (by omega)
    simp only [List.foldl_cons]
    rw [or_byte n c h0 (by omega) hc.1 hc.2]
    exact ih (n * 256 + c) (j + 1) (fun x hx => hb x (List.mem_cons_of_mem _ hx)) (by omega) (by rw [Int.pow_succ]; omega) (by omega)
theorem read_be (l : List Int) (hb : IsBytes l) (h : l.length ≤ 8) : codec_Reader_read.n l = beN l := read_fold l 0 0 hb (by decide) (by decide) (by omega)

/-! ### The Reader at a place of a text -/
theorem raw_at (s : ByteArray) (p n : Nat) (h : p + n ≤ s.size) : codec_Reader_Raw.f (s.extract p s.size) 0 (n : Int) = some (s.extract p (p + n), s.extract (p + n) s.size, 0) := by
  have hz := extract_size s p
  unfold codec_Reader_Raw.f
  rw [if_pos rfl, if_neg (by omega), if_neg (by omega), if_pos (by omega), if_pos (by omega), Int.toNat_natCast, extract_rest s p n h, extract_rest2 s p n h]
theorem read_at (s : ByteArray) (p n : Nat) (hn : n ≤ 8) (h : p + n ≤ s.size) : codec_Reader_read.f (s.extract p s.size) 0 (n : Int) = some (beN (bytesOf (s.extract p (p + n))), s.extract (p + n) s.size, 0) := by
  have hz : (s.extract p (p + n)).size = n := by simp only [ByteArray.size_extract]; omega
  unfold codec_Reader_read.f
  rw [raw_at s p n h, Option.bind_some]
  dsimp only
  rw [if_pos (by omega), read_be _ (bytesOf_are _) (by rw [bytesOf_length]; omega)]
theorem nb_bytes (n : Int) (k : Nat) : IsBytes (nb n k) := by
  induction k generalizing n with
  | zero => intro c hc; cases hc
  | succ k ih =>
    intro c hc
    simp only [nb, List.mem_append, List.mem_singleton] at hc
    rcases hc with hc | rfl
    · exact ih _ c hc
    · omega
theorem be_snoc (l : List Int) (c : Int) : beN (l ++ [c]) = beN l * 256 + c := by simp [beN]
theorem be_nb (k : Nat) : ∀ n : Int, 0 ≤ n → n < 256 ^ k → beN (nb n k) = n := by
  induction k with
  | zero => intro n h0 h1; simp [nb, beN] at *; omega
  | succ k ih =>
    intro n h0 h1
    rw [Int.pow_succ] at h1
    rw [nb, be_snoc, ih (n / 256) (by omega) (by omega)]
    omega
theorem bytes_back (l : List Int) (h : IsBytes l) : bytesOf (strOfNums l) = l := by
  rw [bytesOf, strOfNums_data, List.map_map]
  conv => rhs; rw [← List.map_id l]
  apply List.map_congr_left
  intro c hc
  have := h c hc
  simp only [Function.comp_def, id]
  obtain ⟨n, rfl⟩ := Int.eq_ofNat_of_zero_le this.1
  simp
  omega

theorem size_of {S : ByteArray} {l : List UInt8} (h : S.data.toList = l) : S.size = l.length := by rw [← h, sz_len]
theorem split_loop : ∀ (l : List S51) (S : ByteArray) (o : List S51), (∀ x ∈ l, good x = true) → okL l = true → S.data.toList = keyT l → o.length + l.length ≤ 8 → S.size ≤ 140737488351232 → Ev (fun k => codec_Split.l0 k S o) (o ++ l, 0)
  | [], S, o, hg, ho, hS, hl, hz => by
    refine Ev.step (fun k => by simp only [codec_Split.l0]; exact rfl) (evIfPos (by rw [ByteArray.toList_eq, hS]; rfl) ?_)
    rw [List.append_nil]
    exact Ev.now _
  | p :: l, S, o, hg, ho, hS, hl, hz => by
    have hgp := hg p (by simp)
    have hgl : ∀ x ∈ l, good x = true := fun x hx => hg x (by simp [hx])
    have hop := okL_all.1 ho p (by simp)
    have hol : okL l = true := okL_all.2 (fun x hx => okL_all.1 ho x (by simp [hx]))
    rw [List.length_cons] at hl
    have hS2 : S.data.toList = enc (toP p) ++ keyT l := hS
    have hne : ¬ S.toList = ([] : List UInt8) := by
      rw [ByteArray.toList_eq, hS2]
      intro e
      have := congrArg List.length e
      rw [List.length_append] at this
      have h1 : 1 ≤ (enc (toP p)).length := by cases toP p <;> simp [enc]
      rw [List.length_nil] at this; omega
    have hpos : 0 < S.size := by
      rcases Nat.eq_zero_or_pos S.size with h | h
      · exact absurd (by rw [ByteArray.toList_eq]; exact List.eq_nil_of_length_eq_zero (by rw [sz_len]; exact h)) hne
      · exact h
    refine Ev.step (fun k => by simp only [codec_Split.l0]; exact rfl) (evIfNeg hne (evIfNeg (by omega) (evIfPos (by omega) (evIfPos (by omega) ?_))))
    have hb0 : ∀ (c : UInt8) (r : List UInt8), S.data.toList = c :: r → bt S 0 = (c.toNat : Int) := by
      intro c r h
      rw [show (0 : Int) = ((0 : Nat) : Int) from rfl, bt_nat S 0 hpos]
      have : S[0] = c := by
        have h2 : S.data.toList[0]? = some c := by rw [h]; rfl
        rw [Array.getElem?_toList, Array.getElem?_eq_getElem (show 0 < S.data.size from hpos)] at h2
        exact Option.some.inj h2
      rw [this]
    have hx1 : ∀ (c : UInt8) (r : List UInt8), S.data.toList = c :: r → (S.extract 1 S.size).data.toList = r := by
      intro c r h
      rw [ext_data, ← sz_len, List.take_length, h]; rfl
    obtain ⟨tx, n, b⟩ := p
    cases b with
    | true =>
      obtain rfl : tx = ⟨#[]⟩ := by
        have : tx.size = 0 := by simpa [good] using hgp
        exact ByteArray.ext (Array.eq_empty_of_size_eq_zero this)
      have hS3 : S.data.toList = 1 :: (u8 (nb n 8) ++ keyT l) := hS2
      have hlen : S.size = 9 + (keyT l).length := by rw [size_of hS3, List.length_cons, List.length_append, u8, List.length_map, nb_length]; omega
      refine evIfPos (by rw [hb0 1 _ hS3]; rfl) ?_
      have hr := read_at S 1 8 (by decide) (by omega)
      have e1 : (S.extract 1 (1 + 8)).data.toList = u8 (nb n 8) := by
        rw [ext_data, hS3]
        show ((1 :: (u8 (nb n 8) ++ keyT l)).take 9).drop 1 = _
        rw [List.take_succ_cons, List.drop_succ_cons, List.drop_zero, List.take_append_of_le_length (by rw [u8, List.length_map, nb_length]; exact Nat.le_refl _), List.take_of_length_le (by rw [u8, List.length_map, nb_length]; exact Nat.le_refl _)]
      have e2 : bytesOf (S.extract 1 (1 + 8)) = nb n 8 := by
        rw [show S.extract 1 (1 + 8) = strOfNums (nb n 8) from ByteArray.ext (Array.toList_inj.1 (e1.trans rfl))]
        exact bytes_back _ (nb_bytes n 8)
      have e3 : beN (nb n 8) = n := be_nb 8 n hop.1 (by have h9 : n ≤ 18446744073709551615 := hop.2; show n < 18446744073709551616; omega)
      rw [e2, e3] at hr
      have e4 : ((S.extract 1 S.size).extract 8 (S.extract 1 S.size).size).data.toList = keyT l := by
        rw [ext_data, ← sz_len, List.take_length, hx1 1 _ hS3, List.drop_append_of_le_length (by rw [u8, List.length_map, nb_length]; exact Nat.le_refl _), List.drop_of_length_le (by rw [u8, List.length_map, nb_length]; exact Nat.le_refl _)]; rfl
      have ih := split_loop l ((S.extract 1 S.size).extract 8 (S.extract 1 S.size).size) (o ++ [⟨⟨#[]⟩, n, true⟩]) hgl hol e4 (by rw [List.length_append, List.length_singleton]; omega) (by rw [size_of e4]; omega)
      rw [List.append_assoc] at ih
      refine evBindc (a := (S.extract 1 S.size, 0)) rfl ?_
      refine evBindc (a := (n, S.extract 9 S.size, 0)) (by unfold codec_Reader_U64.f; rw [show (8 : Int) = ((8 : Nat) : Int) from rfl, hr]; rfl) ?_
      refine evBindc (a := (0, S.extract 9 S.size, 0)) rfl ?_
      exact evIfPos rfl (evIfPos (by omega) (evIfPos (by rw [extract_size]; omega) ih))
    | false =>
      obtain rfl : n = 0 := by simpa [good] using hgp
      have hS3 : S.data.toList = 2 :: (esc tx.data.toList ++ 0 :: keyT l) := by
        rw [hS2]
        show 2 :: (esc tx.data.toList ++ [0] ++ keyT l) = _
        rw [List.append_assoc]; rfl
      have hlen : S.size = 1 + ((esc tx.data.toList).length + (1 + (keyT l).length)) := by rw [size_of hS3, List.length_cons, List.length_append, List.length_cons]; omega
      refine evIfNeg (by rw [hb0 2 _ hS3]; decide) (evIfPos (by rw [hb0 2 _ hS3]; rfl) ?_)
      have hu : unesc (S.extract 1 S.size).data.toList = some (tx.data.toList, keyT l) := by
        rw [hx1 2 _ hS3]; exact unesc_esc _ _ (hd_encs' _)
      have ht : codec_text.f (S.extract 1 S.size) = some (tx, ⟨(keyT l).toArray⟩, true) := by
        unfold codec_text.f
        rw [if_pos (by rw [extract_size]; omega)]
        unfold textRes
        rw [hu]
      have ih := split_loop l ⟨(keyT l).toArray⟩ (o ++ [⟨tx, 0, false⟩]) hgl hol rfl (by rw [List.length_append, List.length_singleton]; omega) (by show (keyT l).toArray.size ≤ _; rw [List.size_toArray]; omega)
      rw [List.append_assoc] at ih
      refine evBindc ht ?_
      exact evIfPos rfl (evIfPos (by omega) ih)
theorem keys_law (a : List S51) (hla : a.length ≤ 1048576) (ha : szs a ≤ 1048576) (oa : okL a = true) : Ev (fun k => atriumlaw02_CodecKeys.f k a) true := by
  have hks := key_size a ha
  refine evBindc (a := true) rfl (evIfPos rfl ?_)
  refine evBindc (a := ([] : List S51)) rfl (evIfPos (by rw [List.length_nil]; omega) ?_)
  refine evBindc (a := a) rfl ?_
  refine evBindc (key_f a ha oa) (evBindc (refkey_f a ha oa) (evIfPos rfl (evIfPos rfl ?_)))
  refine Ev.bind (same_ev a a (by omega)) ?_
  rw [(sameL_iff a a).2 rfl]
  refine Ev.step (fun k => by simp only [atriumlaw02_CodecKeys.j0]; exact rfl) (evIfNeg (show ¬ ((!true) = true) by decide) ?_)
  by_cases h1 : (keyRes a).2 = 0
  · refine evIfPos h1 ?_
    obtain ⟨h8, ga, ea⟩ := res_ok h1
    have hs := split_loop a (keyRes a).1 [] ga oa (by rw [← ByteArray.toList_eq]; exact ea) (by rw [List.length_nil]; omega) (by omega)
    refine Ev.bind hs ?_
    rw [List.nil_append]
    refine Ev.bind (same_ev a a (by omega)) ?_
    rw [(sameL_iff a a).2 rfl]
    exact evIfPos rfl (Ev.now _)
  · exact evIfNeg h1 (Ev.now _)
end Go.Proofs.YtjlohahknngmmaaDoor.Ky
