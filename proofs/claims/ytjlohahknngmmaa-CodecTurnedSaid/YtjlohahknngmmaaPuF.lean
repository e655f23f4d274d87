/- The check sum: the program's and the document's are one function of the bytes. -/
import Derived.Test.YtjlohahknngmmaaPDx
import Derived.Test.YtjlohahknngmmaaCdM
namespace Go.Proofs.Ytjlohahknngmmaa.PureD
set_option linter.unusedVariables false
open Go Go.RowKit Go.Proofs.Ytjlohahknngmmaa Go.Proofs.Ytjlohahknngmmaa.PD Go.Proofs.Ytjlohahknngmmaa.PureQ Go.Proofs.YtjlohahknngmmaaW.PrintWords Go.Proofs.YtjlohahknngmmaaW.PrintLast

/-- The program's round over one byte: 8 turns. -/
theorem codec_turns (s : ByteArray) (n6 n7 : Int) (r : Int) (d : Nat) : ∀ (i : Nat) (x : Int), i + d = 8 → 0 ≤ x → x < 4294967296 →
    Ev (fun k => codec_Crc.l0 k s (steps d x) n6 (wrap64 (n7 + 1))) r → Ev (fun k => codec_Crc.l1 k s x n6 n7 (i : Int)) r := by
  induction d with
  | zero =>
    intro i x hi h0 h1 k
    exact Ev.step (fun k => by simp only [codec_Crc.l1]; exact rfl) (evIfNeg (by omega) k)
  | succ d ih =>
    intro i x hi h0 h1 k
    refine Ev.step (fun k => by simp only [codec_Crc.l1]; exact rfl) (evIfPos (by omega) ?_)
    rw [stepC x h0 h1, wrap64_succ (by omega)]
    exact ih (i + 1) _ (by omega) (stepR_range x h0 h1).1 (stepR_range x h0 h1).2 k
theorem ref_turns (s : ByteArray) (n4 : Int) (r : Int) (d : Nat) : ∀ (i : Nat) (x : Int), i + d = 8 → 0 ≤ x → x < 4294967296 →
    Ev (fun k => atriumref02_Crc.l0 k s (steps d x) (wrap64 (n4 + 1))) r → Ev (fun k => atriumref02_Crc.l1 k s x n4 (i : Int)) r := by
  induction d with
  | zero =>
    intro i x hi h0 h1 k
    exact Ev.step (fun k => by simp only [atriumref02_Crc.l1]; exact rfl) (evIfNeg (by omega) k)
  | succ d ih =>
    intro i x hi h0 h1 k
    refine Ev.step (fun k => by simp only [atriumref02_Crc.l1]; exact rfl) (evIfPos (by omega) ?_)
    have hk := ih (i + 1) _ (by omega) (stepR_range x h0 h1).1 (stepR_range x h0 h1).2 k
    have e1 : Int.tmod x 2 = x % 2 := Int.tmod_eq_emod_of_nonneg h0
    have e2 : (Int.tdiv x 2) % 4294967296 = x / 2 := by rw [Int.tdiv_eq_ediv_of_nonneg h0]; omega
    rw [wrap64_succ (show i < 9223372036854775807 by omega), e1, e2]
    by_cases hp : x % 2 = 1
    · refine evIfPos hp ?_
      rw [show stepR x = Go.bits .xor .u32 (x / 2) 2197175160 by simp only [stepR, if_pos hp]] at hk
      exact hk
    · refine evIfNeg hp ?_
      rw [show stepR x = x / 2 by simp only [stepR, if_neg hp]] at hk
      exact hk

theorem codec_loop (s : ByteArray) (hs : s.size < 9223372036854775807) (d : Nat) : ∀ (i : Nat), i + d = s.size → Ev (fun k => codec_Crc.l0 k s ((s.data.toList.take i).foldl crcByte 4294967295) (s.size : Int) (i : Int)) (crcOf s.data.toList) := by
  have hl : s.data.toList.length = s.size := Array.length_toList
  induction d with
  | zero =>
    intro i hi
    refine Ev.step (fun k => by simp only [codec_Crc.l0]; exact rfl) (evIfNeg (by omega) ?_)
    rw [List.take_of_length_le (by omega), xor_comm]
    exact Ev.now _
  | succ d ih =>
    intro i hi
    obtain ⟨b, hb, ht, _⟩ := bt_nat' s i (by omega)
    have h1 := ih (i + 1) (by omega)
    rw [ht, List.foldl_append] at h1
    have hr := fold_range (s.data.toList.take i) 4294967295 (by decide) (by decide)
    generalize (s.data.toList.take i).foldl crcByte 4294967295 = x at *
    have hb256 := b.toNat_lt
    refine Ev.step (fun k => by simp only [codec_Crc.l0]; exact rfl) (evIfPos (by omega) (evIfPos (by omega) (evIfPos (by omega) ?_)))
    rw [hb, show ((b.toNat : Int)) % 4294967296 = (b.toNat : Int) by omega]
    refine codec_turns s _ _ _ 8 0 _ rfl (xor_range _ _).1 (xor_range _ _).2 ?_
    rw [wrap64_succ (by omega)]
    exact h1
theorem ref_loop (s : ByteArray) (hs : s.size < 9223372036854775807) (d : Nat) : ∀ (i : Nat), i + d = s.size → Ev (fun k => atriumref02_Crc.l0 k s ((s.data.toList.take i).foldl crcByte 4294967295) (i : Int)) (crcOf s.data.toList) := by
  have hl : s.data.toList.length = s.size := Array.length_toList
  induction d with
  | zero =>
    intro i hi
    refine Ev.step (fun k => by simp only [atriumref02_Crc.l0]; exact rfl) (evIfNeg (by omega) ?_)
    rw [List.take_of_length_le (by omega)]
    exact Ev.now _
  | succ d ih =>
    intro i hi
    obtain ⟨b, hb, ht, _⟩ := bt_nat' s i (by omega)
    have h1 := ih (i + 1) (by omega)
    rw [ht, List.foldl_append] at h1
    generalize (s.data.toList.take i).foldl crcByte 4294967295 = x at *
    have hb256 := b.toNat_lt
    refine Ev.step (fun k => by simp only [atriumref02_Crc.l0]; exact rfl) (evIfPos (by omega) (evIfPos (by omega) ?_))
    rw [hb, show ((b.toNat : Int)) % 4294967296 = (b.toNat : Int) by omega]
    refine ref_turns s _ _ 8 0 _ rfl (xor_range _ _).1 (xor_range _ _).2 ?_
    rw [wrap64_succ (by omega)]
    exact h1

theorem codec_crc (s : ByteArray) (hs : s.size < 9223372036854775807) : Ev (fun k => codec_Crc.f k s) (crcOf s.data.toList) := by
  have h := codec_loop s hs s.size 0 (by omega)
  exact h
theorem ref_crc (s : ByteArray) (hs : s.size < 9223372036854775807) : Ev (fun k => atriumref02_Crc.f k s) (crcOf s.data.toList) := by
  have h := ref_loop s hs s.size 0 (by omega)
  exact h
end Go.Proofs.Ytjlohahknngmmaa.PureD
/- Proves that any text is unframed as the document says, and has the document's check sum. Method: both sides are one plain function of the bytes. Condition: none beyond the row's. -/
namespace Go.Proofs.Ytjlohahknngmmaa.PureD
set_option linter.unusedVariables false
open Go Go.RowKit Go.Proofs.Ytjlohahknngmmaa Go.Proofs.Ytjlohahknngmmaa.PD Go.Proofs.Ytjlohahknngmmaa.PureQ Go.Proofs.YtjlohahknngmmaaW.PrintWords Go.Proofs.YtjlohahknngmmaaW.PrintLast

/-! ### Numbers of bytes, the highest first -/
def beN (l : List Int) : Int := l.foldl (fun n c => n * 256 + c) 0
def IsBytes (l : List Int) : Prop := ∀ c ∈ l, 0 ≤ c ∧ c ≤ 255
theorem bytesOf_are (s : ByteArray) : IsBytes (bytesOf s) := by
  intro c hc
  simp only [bytesOf, List.mem_map] at hc
  obtain ⟨b, _, rfl⟩ := hc
  have := b.toNat_lt
  omega
theorem be_fold (l : List Int) : ∀ (n : Int) (j : Nat), IsBytes l → 0 ≤ n → n < 256 ^ j → 0 ≤ l.foldl (fun n c => n * 256 + c) n ∧ l.foldl (fun n c => n * 256 + c) n < 256 ^ (j + l.length) := by
  induction l with
  | nil => intro n j _ h0 h1; exact ⟨h0, h1⟩
  | cons c l ih =>
    intro n j hb h0 h1
    have hc := hb c (List.mem_cons_self ..)
    have h2 := ih (n * 256 + c) (j + 1) (fun x hx => hb x (List.mem_cons_of_mem _ hx)) (by omega) (by rw [Int.pow_succ]; omega)
    rw [List.length_cons, show j + (l.length + 1) = j + 1 + l.length by omega]
    exact h2
theorem be_range (l : List Int) (hb : IsBytes l) : 0 ≤ beN l ∧ beN l < 256 ^ l.length := by
  have h := be_fold l 0 0 hb (by decide) (by decide)
  rw [Nat.zero_add] at h
  exact h
theorem pow_le8 {j : Nat} (h : j ≤ 7) : (256 : Int) ^ j ≤ 72057594037927936 := by
  have : j = 0 ∨ j = 1 ∨ j = 2 ∨ j = 3 ∨ j = 4 ∨ j = 5 ∨ j = 6 ∨ j = 7 := by omega
  rcases this with rfl | rfl | rfl | rfl | rfl | rfl | rfl | rfl <;> decide
theorem or_byte (n c : Int) (h0 : 0 ≤ n) (h1 : n < 72057594037927936) (c0 : 0 ≤ c) (c1 : c ≤ 255) : Go.bits .or .u64 (IntKind.u64.wrap (n * 256)) (IntKind.u64.wrap c) = n * 256 + c := by
  rw [u64w (by omega) (by omega), u64w (by omega) (by omega)]
  obtain ⟨n, rfl⟩ := Int.eq_ofNat_of_zero_le h0
  obtain ⟨c, rfl⟩ := Int.eq_ofNat_of_zero_le c0
  have h := or_add c n 8 (by omega) (by omega)
  have e : ((2 ^ 8 * n : Nat) : Int) = (n : Int) * 256 := by omega
  rw [e] at h
  rw [h]; omega
theorem read_fold (l : List Int) : ∀ (n : Int) (j : Nat), IsBytes l → 0 ≤ n → n < 256 ^ j → j + l.length ≤ 8 →
    l.foldl (fun n c => Go.bits .or .u64 (IntKind.u64.wrap (n * 256)) (IntKind.u64.wrap c)) n = l.foldl (fun n c => n * 256 + c) n := by
  induction l with
  | nil => intro n j _ _ _ _; rfl
  | cons c l ih =>
    intro n j hb h0 h1 hj
    rw [List.length_cons] at hj
    have hc := hb c (List.mem_cons_self ..)
    have hp := pow_le8 (j := j) (by omega)
    simp only [List.foldl_cons]
    rw [or_byte n c h0 (by omega) hc.1 hc.2]
    exact ih (n * 256 + c) (j + 1) (fun x hx => hb x (List.mem_cons_of_mem _ hx)) (by omega) (by rw [Int.pow_succ]; omega) (by omega)
theorem read_be (l : List Int) (hb : IsBytes l) (h : l.length ≤ 8) : codec_Reader_read.n l = beN l := read_fold l 0 0 hb (by decide) (by decide) (by omega)

/-- The document's reading of bytes. -/
theorem ref_read_loop (s : ByteArray) (hs : s.size ≤ 8) (d : Nat) : ∀ i, i + d = s.size → Ev (fun k => atriumref02_Read.l0 k s (beN ((bytesOf s).take i)) (i : Int)) (beN (bytesOf s)) := by
  have hl := bytesOf_length s
  induction d with
  | zero =>
    intro i hi
    refine Ev.step (fun k => by simp only [atriumref02_Read.l0]; exact rfl) (evIfNeg (by omega) ?_)
    rw [List.take_of_length_le (by omega)]
    exact Ev.now _
  | succ d ih =>
    intro i hi
    have h1 := ih (i + 1) (by omega)
    have hbt := rd_bytesOf s (i : Int)
    have hr := bt_range s (i : Int)
    have hg : (bytesOf s)[i]'(by omega) = bt s (i : Int) := by
      rw [← hbt]; simp [rd, List.getD_eq_getElem?_getD, List.getElem?_eq_getElem (show i < (bytesOf s).length by omega)]
    rw [List.take_succ_eq_append_getElem (show i < (bytesOf s).length by omega), hg] at h1
    rw [show beN ((bytesOf s).take i ++ [bt s (i : Int)]) = beN ((bytesOf s).take i) * 256 + bt s (i : Int) by simp [beN]] at h1
    have hb := be_range ((bytesOf s).take i) (fun x hx => bytesOf_are s x (List.mem_of_mem_take hx))
    have hp := pow_le8 (j := ((bytesOf s).take i).length) (by rw [List.length_take]; omega)
    generalize beN ((bytesOf s).take i) = n at *
    refine Ev.step (fun k => by simp only [atriumref02_Read.l0]; exact rfl) (evIfPos (by omega) (evIfPos (by omega) ?_))
    rw [wrap64_succ (by omega), u64w (x := n * 256) (by omega) (by omega), u64w (x := bt s (i : Int)) (by omega) (by omega), u64w (by omega) (by omega)]
    exact h1
theorem ref_read (s : ByteArray) (hs : s.size ≤ 8) : Ev (fun k => atriumref02_Read.f k s) (beN (bytesOf s)) := ref_read_loop s hs s.size 0 (by omega)

/-! ### The Reader at a place of a text -/
theorem raw_at (s : ByteArray) (p n : Nat) (h : p + n ≤ s.size) : codec_Reader_Raw.f (s.extract p s.size) 0 (n : Int) = some (s.extract p (p + n), s.extract (p + n) s.size, 0) := by
  have hz := extract_size s p
  unfold codec_Reader_Raw.f
  rw [if_pos rfl, if_neg (by omega), if_neg (by omega), if_pos (by omega), if_pos (by omega), Int.toNat_natCast, extract_rest s p n h, extract_rest2 s p n h]
theorem raw_short (s : ByteArray) (p n : Nat) (hp : p ≤ s.size) (h : s.size < p + n) : codec_Reader_Raw.f (s.extract p s.size) 0 (n : Int) = some (⟨#[]⟩, s.extract p s.size, 20) := by
  have hz := extract_size s p
  unfold codec_Reader_Raw.f
  rw [if_pos rfl, if_neg (by omega), if_pos (by omega)]
  rfl
theorem raw_err (s : ByteArray) (e n : Int) (he : e ≠ 0) : codec_Reader_Raw.f s e n = some (⟨#[]⟩, s, e) := by
  unfold codec_Reader_Raw.f
  rw [if_neg he]
theorem read_at (s : ByteArray) (p n : Nat) (hn : n ≤ 8) (h : p + n ≤ s.size) : codec_Reader_read.f (s.extract p s.size) 0 (n : Int) = some (beN (bytesOf (s.extract p (p + n))), s.extract (p + n) s.size, 0) := by
  have hz : (s.extract p (p + n)).size = n := by simp only [ByteArray.size_extract]; omega
  unfold codec_Reader_read.f
  rw [raw_at s p n h, Option.bind_some]
  dsimp only
  rw [if_pos (by omega), read_be _ (bytesOf_are _) (by rw [bytesOf_length]; omega)]
theorem read_short (s : ByteArray) (p n : Nat) (hp : p ≤ s.size) (h : s.size < p + n) : codec_Reader_read.f (s.extract p s.size) 0 (n : Int) = some (0, s.extract p s.size, 20) := by
  unfold codec_Reader_read.f
  rw [raw_short s p n hp h]
  rfl
theorem read_err (s : ByteArray) (e n : Int) (he : e ≠ 0) : codec_Reader_read.f s e n = some (0, s, e) := by
  unfold codec_Reader_read.f
  rw [raw_err s e n he]
  rfl
theorem one_byte (s : ByteArray) (p : Nat) (h : p < s.size) : bytesOf (s.extract p (p + 1)) = [bt s (p : Int)] := by
  have hl : s.data.toList.length = s.size := Array.length_toList
  rw [bt_nat s p h, bytesOf, ByteArray.data_extract, Array.toList_extract, List.extract_eq_take_drop, show p + 1 - p = 1 by omega, List.drop_eq_getElem_cons (by omega), List.take_succ_cons, List.take_zero]
  rfl
theorem u8_at (s : ByteArray) (p : Nat) (h : p < s.size) : codec_Reader_U8.f (s.extract p s.size) 0 = some (bt s (p : Int), s.extract (p + 1) s.size, 0) := by
  have hr := bt_range s (p : Int)
  unfold codec_Reader_U8.f
  have := read_at s p 1 (by decide) h
  rw [one_byte s p h, show beN [bt s (p : Int)] = bt s (p : Int) by simp [beN]] at this
  rw [show ((1 : Nat) : Int) = 1 from rfl] at this
  rw [this, Option.bind_some]
  simp only [Option.some.injEq, Prod.mk.injEq, and_true]
  omega
theorem be4 (s : ByteArray) (p : Nat) (h : p + 4 ≤ s.size) : 0 ≤ beN (bytesOf (s.extract p (p + 4))) ∧ beN (bytesOf (s.extract p (p + 4))) < 4294967296 := by
  have hr := be_range _ (bytesOf_are (s.extract p (p + 4)))
  rw [bytesOf_length, show (s.extract p (p + 4)).size = 4 by simp only [ByteArray.size_extract]; omega] at hr
  exact hr
theorem u32_at (s : ByteArray) (p : Nat) (h : p + 4 ≤ s.size) : codec_Reader_U32.f (s.extract p s.size) 0 = some (beN (bytesOf (s.extract p (p + 4))), s.extract (p + 4) s.size, 0) := by
  have hr := be4 s p h
  unfold codec_Reader_U32.f
  have := read_at s p 4 (by decide) h
  rw [show ((4 : Nat) : Int) = 4 from rfl] at this
  rw [this, Option.bind_some]
  simp only [Option.some.injEq, Prod.mk.injEq, and_true]
  omega
theorem u32_short (s : ByteArray) (p : Nat) (hp : p ≤ s.size) (h : s.size < p + 4) : codec_Reader_U32.f (s.extract p s.size) 0 = some (0, s.extract p s.size, 20) := by
  unfold codec_Reader_U32.f
  have := read_short s p 4 hp h
  rw [show ((4 : Nat) : Int) = 4 from rfl] at this
  rw [this]; rfl
theorem u32_err (s : ByteArray) (e : Int) (he : e ≠ 0) : codec_Reader_U32.f s e = some (0, s, e) := by
  unfold codec_Reader_U32.f
  rw [read_err s e 4 he]; rfl

/-! ### Unframe -/
/-- What any text is unframed to. -/
def unfR (s : ByteArray) (N : Nat) : Int × ByteArray × Int × Int :=
  if s.size < 12 + N then (0, ⟨#[]⟩, 0, 20)
  else if beN (bytesOf (s.extract (8 + N) (12 + N))) = crcOf (s.extract 0 (8 + N)).data.toList then (bt s 2, s.extract 8 (8 + N), ((12 + N : Nat) : Int), 0) else (0, ⟨#[]⟩, 0, 23)
def unf (s : ByteArray) : Int × ByteArray × Int × Int :=
  if s.size < 8 then (0, ⟨#[]⟩, 0, 20)
  else if (s.extract 0 2).toList = [68, 70] ∧ bt s 3 = 0 ∧ beN (bytesOf (s.extract 4 8)) ≤ 1048576 then unfR s (beN (bytesOf (s.extract 4 8))).toNat
  else (0, ⟨#[]⟩, 0, 21)

theorem codec_j0_bad (s : ByteArray) (x2 x9 : Int) (b : ByteArray) (e : Int) : Ev (fun k => codec_Unframe.j0 k s x2 x9 true b e) (0, ⟨#[]⟩, 0, 21) :=
  Ev.step (fun k => by simp only [codec_Unframe.j0]; exact rfl) (evIfPos (show (true = true) from rfl) (Ev.now _))

theorem codec_j0_good (s : ByteArray) (hs : s.size ≤ 281474976710656) (h8 : 8 ≤ s.size) (N : Nat) (hN : N ≤ 1048576) :
    Ev (fun k => codec_Unframe.j0 k s (bt s 2) (N : Int) false (s.extract 8 s.size) 0) (unfR s N) := by
  have hw : wrap64 (8 + (N : Int)) = ((8 + N : Nat) : Int) := by rw [wrap64_id (by omega) (by omega)]; omega
  have hw2 : wrap64 (((8 + N : Nat) : Int) + 4) = ((12 + N : Nat) : Int) := by rw [wrap64_id (by omega) (by omega)]; omega
  refine Ev.step (fun k => by simp only [codec_Unframe.j0]; exact rfl) (evIfNeg (show ¬ (false = true) by decide) ?_)
  by_cases h1 : s.size < 8 + N
  · refine evBindc (raw_short s 8 N h8 h1) (evBindc (u32_err _ 20 (by decide)) (evBindc (show codec_Reader_Err.f _ 20 = some _ from rfl) (evIfNeg (show ¬ (20 : Int) = 0 by decide) ?_)))
    rw [show unfR s N = (0, ⟨#[]⟩, 0, 20) by unfold unfR; rw [if_pos (by omega)]]
    exact Ev.now _
  · refine evBindc (raw_at s 8 N (by omega)) ?_
    by_cases h2 : s.size < 12 + N
    · refine evBindc (u32_short s (8 + N) (by omega) (by omega)) (evBindc (show codec_Reader_Err.f _ 20 = some _ from rfl) (evIfNeg (show ¬ (20 : Int) = 0 by decide) ?_))
      rw [show unfR s N = (0, ⟨#[]⟩, 0, 20) by unfold unfR; rw [if_pos (by omega)]]
      exact Ev.now _
    · have hu := u32_at s (8 + N) (by omega)
      rw [show 8 + N + 4 = 12 + N by omega] at hu
      refine evBindc hu (evBindc (show codec_Reader_Err.f _ 0 = some _ from rfl) (evIfPos (show (0 : Int) = 0 from rfl) ?_))
      simp only [hw, Int.toNat_natCast, hw2]
      refine evIfPos (by omega) (evIfPos (by omega) (Ev.bind (codec_crc (s.extract 0 (8 + N)) (by simp only [ByteArray.size_extract]; omega)) ?_))
      unfold unfR
      rw [if_neg h2]
      by_cases h3 : beN (bytesOf (s.extract (8 + N) (12 + N))) = crcOf (s.extract 0 (8 + N)).data.toList
      · rw [if_pos h3]
        exact evIfPos h3.symm (Ev.now _)
      · rw [if_neg h3]
        exact evIfNeg (fun e => h3 e.symm) (Ev.now _)

theorem codec_unf (s : ByteArray) (hs : s.size ≤ 281474976710656) : Ev (fun k => codec_Unframe.f k s) (unf s) := by
  unfold unf
  by_cases h8 : s.size < 8
  · rw [if_pos h8]
    exact evIfPos (by omega) (Ev.now _)
  · rw [if_neg h8]
    have h8' : 8 ≤ s.size := by omega
    have e0 := raw_at s 0 2 (by omega)
    rw [extract_all] at e0
    have hb : 0 ≤ beN (bytesOf (s.extract 4 8)) ∧ beN (bytesOf (s.extract 4 8)) < 4294967296 := be4 s 4 (by omega)
    have hw : wrap64 (beN (bytesOf (s.extract 4 8))) = beN (bytesOf (s.extract 4 8)) := wrap64_id (by omega) (by omega)
    refine evIfNeg (by omega) (evBindc (show codec_NewReader.f s = some (s, 0) from rfl) (evBindc e0 (evBindc (u8_at s 2 (by omega)) (evBindc (u8_at s 3 (by omega)) (evBindc (u32_at s 4 (by omega)) ?_)))))
    simp only [hw]
    by_cases h1 : (s.extract 0 2).toList = [68, 70]
    · refine evIfPos h1 ?_
      by_cases h2 : bt s 3 = 0
      · refine evIfPos h2 ?_
        by_cases h3 : beN (bytesOf (s.extract 4 8)) ≤ 1048576
        · rw [if_pos ⟨h1, h2, h3⟩, decide_eq_false (by omega)]
          have hj := codec_j0_good s hs h8' (beN (bytesOf (s.extract 4 8))).toNat (by omega)
          rw [Int.toNat_of_nonneg hb.1] at hj
          exact hj
        · rw [if_neg (fun h => h3 h.2.2), decide_eq_true (by omega)]
          exact codec_j0_bad ..
      · rw [if_neg (fun h => h2 h.2.1)]
        exact evIfNeg h2 (codec_j0_bad ..)
    · rw [if_neg (fun h => h1 h.1)]
      exact evIfNeg h1 (codec_j0_bad ..)

theorem ref_j0_bad (s : ByteArray) (x6 : Int) : Ev (fun k => atriumref02_Unframe.j0 k s x6 true) (0, ⟨#[]⟩, 0, 21) :=
  Ev.step (fun k => by simp only [atriumref02_Unframe.j0]; exact rfl) (evIfPos (show (true = true) from rfl) (Ev.now _))

theorem ref_j0_good (s : ByteArray) (hs : s.size ≤ 281474976710656) (h8 : 8 ≤ s.size) (N : Nat) (hN : N ≤ 1048576) :
    Ev (fun k => atriumref02_Unframe.j0 k s (N : Int) false) (unfR s N) := by
  have hw0 : wrap64 (N : Int) = (N : Int) := wrap64_id (by omega) (by omega)
  have hw : wrap64 (12 + (N : Int)) = ((12 + N : Nat) : Int) := by rw [wrap64_id (by omega) (by omega)]; omega
  have hw2 : wrap64 (((12 + N : Nat) : Int) - 4) = ((8 + N : Nat) : Int) := by rw [wrap64_id (by omega) (by omega)]; omega
  refine Ev.step (fun k => by simp only [atriumref02_Unframe.j0]; exact rfl) (evIfNeg (show ¬ (false = true) by decide) ?_)
  simp only [hw0, hw, hw2, Int.toNat_natCast]
  unfold unfR
  by_cases h2 : s.size < 12 + N
  · rw [if_pos h2]
    exact evIfPos (by omega) (Ev.now _)
  · rw [if_neg h2]
    have hc := crc_range (s.extract 0 (8 + N)).data.toList
    refine evIfNeg (by omega) (evIfPos (by omega) (evIfPos (by omega) (evIfPos (by omega) (Ev.bind (ref_read (s.extract (8 + N) (12 + N)) (by simp only [ByteArray.size_extract]; omega)) (evIfPos (by omega) (Ev.bind (ref_crc (s.extract 0 (8 + N)) (by simp only [ByteArray.size_extract]; omega)) ?_))))))
    rw [u64w (by omega) (by omega)]
    by_cases h3 : beN (bytesOf (s.extract (8 + N) (12 + N))) = crcOf (s.extract 0 (8 + N)).data.toList
    · simp only [if_pos h3]
      exact evIfPos (by omega) (evIfPos (by omega) (Ev.now _))
    · simp only [if_neg h3]
      exact Ev.now _

theorem ref_unf (s : ByteArray) (hs : s.size ≤ 281474976710656) : Ev (fun k => atriumref02_Unframe.f k s) (unf s) := by
  unfold unf
  by_cases h8 : s.size < 8
  · rw [if_pos h8]
    exact evIfPos (by omega) (Ev.now _)
  · rw [if_neg h8]
    have hb : 0 ≤ beN (bytesOf (s.extract 4 8)) ∧ beN (bytesOf (s.extract 4 8)) < 4294967296 := be4 s 4 (by omega)
    refine evIfNeg (by omega) (evIfPos (by omega) (evIfPos (by omega) (Ev.bind (ref_read (s.extract 4 8) (by simp only [ByteArray.size_extract]; omega)) (evIfPos (by omega) (evIfPos (by omega) ?_)))))
    by_cases h1 : (s.extract 0 2).toList = [68, 70]
    · refine evIfPos h1 (evIfPos (by omega) ?_)
      by_cases h2 : bt s 3 = 0
      · refine evIfPos h2 ?_
        by_cases h3 : beN (bytesOf (s.extract 4 8)) ≤ 1048576
        · rw [if_pos ⟨h1, h2, h3⟩, decide_eq_false (by omega)]
          have hj := ref_j0_good s hs (by omega) (beN (bytesOf (s.extract 4 8))).toNat (by omega)
          rw [Int.toNat_of_nonneg hb.1] at hj
          exact hj
        · rw [if_neg (fun h => h3 h.2.2), decide_eq_true (by omega)]
          exact ref_j0_bad ..
      · rw [if_neg (fun h => h2 h.2.1)]
        exact evIfNeg h2 (ref_j0_bad ..)
    · rw [if_neg (fun h => h1 h.1)]
      exact evIfNeg h1 (ref_j0_bad ..)
end Go.Proofs.Ytjlohahknngmmaa.PureD

namespace Go.Proofs.Ytjlohahknngmmaa.Pure
set_option linter.unusedVariables false
open Go Go.RowKit Go.Proofs.Ytjlohahknngmmaa Go.Proofs.Ytjlohahknngmmaa.PD Go.Proofs.Ytjlohahknngmmaa.PureD Go.Proofs.Ytjlohahknngmmaa.PureQ Go.Proofs.YtjlohahknngmmaaW.PrintWords Go.Proofs.YtjlohahknngmmaaW.PrintLast
theorem CodecUnframes : atriumlaw02_CodecUnframes.Pure := by
  intro s hs
  refine Ev.rounds (Ev.bind (codec_unf s (by omega)) (Ev.bind (ref_unf s (by omega)) (evBindc (show atriumlaw02_awake.f = some true from rfl) (evIfPos rfl (evIfPos rfl (evIfPos rfl (evIfPos rfl (evIfPos rfl (Ev.bind (codec_crc s (by omega)) (Ev.bind (ref_crc s (by omega)) ?_))))))))))
  rw [show (crcOf s.data.toList == crcOf s.data.toList) = true by simp]
  exact Ev.now _
end Go.Proofs.Ytjlohahknngmmaa.Pure
/- Proves that a body that is framed is found again, whatever stands behind. Method: the frame is one list of bytes; Unframe's plain function is asked at it. -/
namespace Go.Proofs.Ytjlohahknngmmaa.PureD
set_option linter.unusedVariables false
open Go Go.RowKit Go.Proofs.Ytjlohahknngmmaa Go.Proofs.Ytjlohahknngmmaa.PD Go.Proofs.Ytjlohahknngmmaa.PureQ Go.Proofs.YtjlohahknngmmaaW.PrintWords Go.Proofs.YtjlohahknngmmaaW.PrintLast

/-! ### Numbers as bytes -/
theorem nb_bytes (n : Int) (k : Nat) : IsBytes (nb n k) := by
  induction k generalizing n with
  | zero => intro c hc; cases hc
  | succ k ih =>
    intro c hc
    simp only [nb, List.mem_append, List.mem_singleton] at hc
    rcases hc with hc | rfl
    · exact ih _ c hc
    · omega
theorem be_snoc (l : List Int) (c : Int) : beN (l ++ [c]) = beN l * 256 + c := by simp [beN]
theorem be_nb (k : Nat) : ∀ n : Int, 0 ≤ n → n < 256 ^ k → beN (nb n k) = n := by
  induction k with
  | zero => intro n h0 h1; simp [nb, beN] at *; omega
  | succ k ih =>
    intro n h0 h1
    rw [Int.pow_succ] at h1
    rw [nb, be_snoc, ih (n / 256) (by omega) (by omega)]
    omega
theorem bytes_back (l : List Int) (h : IsBytes l) : bytesOf (strOfNums l) = l := by
  rw [bytesOf, strOfNums_data, List.map_map]
  conv => rhs; rw [← List.map_id l]
  apply List.map_congr_left
  intro c hc
  have := h c hc
  simp only [Function.comp_def, id]
  obtain ⟨n, rfl⟩ := Int.eq_ofNat_of_zero_le this.1
  simp
  omega
theorem str_back (s : ByteArray) : strOfNums (bytesOf s) = s := by
  apply data_inj
  rw [strOfNums_data, bytesOf, List.map_map]
  conv => rhs; rw [← List.map_id s.data.toList]
  apply List.map_congr_left
  intro c hc
  simp
theorem str_append (a b : List Int) : strOfNums (a ++ b) = strOfNums a ++ strOfNums b := by
  apply data_inj
  simp [strOfNums_data]

theorem number_loop (x : Int) (hx : 0 ≤ x) (z : Nat) (hz : z ≤ 8) (j : Nat) : j ≤ z → Ev (fun k => atriumref02_Number.l0 k x (nb (x / 256 ^ j) (z - j)) ((j : Int) - 1)) (strOfNums (nb x z)) := by
  induction j with
  | zero =>
    intro _
    refine Ev.step (fun k => by simp only [atriumref02_Number.l0]; exact rfl) (evIfNeg (by omega) ?_)
    simp only [Int.pow_zero, Int.ediv_one, Nat.sub_zero]
    exact Ev.now _
  | succ j ih =>
    intro hj
    have h1 := ih (by omega)
    have hl := nb_length (x / 256 ^ (j + 1)) (z - (j + 1))
    have e1 : ((j + 1 : Nat) : Int) - 1 = (j : Int) := by omega
    have e2 : wrap64 (8 * (j : Int)) = 8 * (j : Int) := wrap64_id (by omega) (by omega)
    have e3 : wrap64 ((j : Int) - 1) = (j : Int) - 1 := wrap64_id (by omega) (by omega)
    rw [e1]
    refine Ev.step (fun k => by simp only [atriumref02_Number.l0]; exact rfl) (evIfPos (by omega) (evIfPos (by omega) (evIfPos (by omega) ?_)))
    have e4 : (shr .u64 x (8 * (j : Int))) % 256 = x / 256 ^ j % 256 := by
      have hp : (2 : Int) ^ (min (8 * (j : Int)).toNat 64) = 256 ^ j := by
        have : j = 0 ∨ j = 1 ∨ j = 2 ∨ j = 3 ∨ j = 4 ∨ j = 5 ∨ j = 6 ∨ j = 7 := by omega
        rcases this with rfl | rfl | rfl | rfl | rfl | rfl | rfl | rfl <;> decide
      show x / 2 ^ (min (8 * (j : Int)).toNat 64) % 256 = _
      rw [hp]
    have e5 : nb (x / 256 ^ j) (z - j) = nb (x / 256 ^ (j + 1)) (z - (j + 1)) ++ [x / 256 ^ j % 256] := by
      rw [show z - j = z - (j + 1) + 1 by omega, nb, Int.pow_succ, Int.ediv_ediv_of_nonneg (Int.pow_nonneg (by decide))]
    rw [e2, e3, e4, ← e5]
    exact h1
theorem number_ev (x : Int) (hx : 0 ≤ x) (z : Nat) (hz : z ≤ 8) : Ev (fun k => atriumref02_Number.f k x (z : Int)) (strOfNums (nb x z)) := by
  have h := number_loop x hx z hz z (Nat.le_refl _)
  rw [Nat.sub_self, nb] at h
  have e : wrap64 ((z : Int) - 1) = (z : Int) - 1 := wrap64_id (by omega) (by omega)
  refine Ev.congr (fun k => ?_) h
  unfold atriumref02_Number.f
  rw [e]

/-! ### The frame -/
theorem ext_mid (t : ByteArray) (X Y Z : List UInt8) (p q : Nat) (h : t.data.toList = X ++ Y ++ Z) (hp : X.length = p) (hq : p + Y.length = q) : (t.extract p q).data.toList = Y := by
  rw [ByteArray.data_extract, Array.toList_extract, List.extract_eq_take_drop, h, List.append_assoc, List.drop_left' hp, List.take_left' (by omega)]

def u8s (l : List Int) : List UInt8 := l.map fun n => UInt8.ofNat n.toNat
theorem u8s_str (l : List Int) : (strOfNums l).data.toList = u8s l := rfl
theorem u8s_bytes (s : ByteArray) : u8s (bytesOf s) = s.data.toList := by rw [← u8s_str, str_back]
theorem u8s_append (a b : List Int) : u8s (a ++ b) = u8s a ++ u8s b := by simp [u8s]
theorem u8s_length (a : List Int) : (u8s a).length = a.length := by simp [u8s]
theorem bytesOf_u8s (s : ByteArray) (l : List Int) (h : s.data.toList = u8s l) (hb : IsBytes l) : bytesOf s = l := by
  have : s = strOfNums l := data_inj (by rw [h, u8s_str])
  rw [this, bytes_back l hb]

theorem head_bytes (kind : Int) (body : ByteArray) : IsBytes (frameHead kind body) := by
  intro c hc
  simp only [frameHead, List.mem_append] at hc
  rcases hc with (((hc | hc) | hc) | hc) | hc
  · have := List.mem_cons.1 hc
    rcases this with rfl | h
    · omega
    · rw [List.mem_singleton.1 h]; omega
  · exact nb_bytes _ _ c hc
  · exact nb_bytes _ _ c hc
  · exact nb_bytes _ _ c hc
  · exact bytesOf_are _ c hc

theorem unf_frame (kind : Int) (h0 : 0 ≤ kind) (h1 : kind ≤ 255) (body behind : ByteArray) (hs : body.size ≤ 1048576) (s : ByteArray)
    (hS : s = strOfNums (frameHead kind body ++ nb (crcOf (strOfNums (frameHead kind body)).data.toList) 4)) : unf (s ++ behind) = (kind, body, (s.size : Int), 0) := by
  have hl : s.data.toList = u8s (frameHead kind body) ++ u8s (nb (crcOf (strOfNums (frameHead kind body)).data.toList) 4) := by rw [hS, u8s_str, u8s_append]
  have hcr := crc_range (strOfNums (frameHead kind body)).data.toList
  generalize hc : crcOf (strOfNums (frameHead kind body)).data.toList = cr at *
  have hT : (s ++ behind).data.toList = u8s (frameHead kind body) ++ u8s (nb cr 4) ++ behind.data.toList := by simp only [ByteArray.data_append, Array.toList_append, hl]
  have hH : u8s (frameHead kind body) = [68, 70] ++ u8s (nb kind 1) ++ u8s (nb 0 1) ++ u8s (nb (body.size : Int) 4) ++ body.data.toList := by
    simp only [frameHead, u8s_append, u8s_bytes]; rfl
  have hlen := frameHead_length kind body
  have hsz : s.size = 12 + body.size := by
    rw [hS, strOfNums_size, List.length_append, hlen, nb_length]; omega
  have hbl : body.data.toList.length = body.size := Array.length_toList
  have htz : (s ++ behind).size = 12 + body.size + behind.size := by rw [ByteArray.size_append, hsz]
  generalize s ++ behind = t at *
  have e1 : (t.extract 0 2).data.toList = [68, 70] := ext_mid t [] [68, 70] _ 0 2 (by rw [hT, hH]; simp only [List.append_assoc, List.nil_append]; rfl) rfl rfl
  have e2 : bytesOf (t.extract 2 (2 + 1)) = nb kind 1 := bytesOf_u8s _ _ (ext_mid t [68, 70] (u8s (nb kind 1)) _ 2 (2 + 1) (by rw [hT, hH]; simp only [List.append_assoc]; rfl) rfl (by rw [u8s_length, nb_length])) (nb_bytes _ _)
  have e3 : bytesOf (t.extract 3 (3 + 1)) = nb 0 1 := bytesOf_u8s _ _ (ext_mid t ([68, 70] ++ u8s (nb kind 1)) (u8s (nb 0 1)) _ 3 (3 + 1) (by rw [hT, hH]; simp only [List.append_assoc]; rfl) (by rw [List.length_append, u8s_length, nb_length]; rfl) (by rw [u8s_length, nb_length])) (nb_bytes _ _)
  have e4 : bytesOf (t.extract 4 8) = nb (body.size : Int) 4 := bytesOf_u8s _ _ (ext_mid t ([68, 70] ++ u8s (nb kind 1) ++ u8s (nb 0 1)) (u8s (nb (body.size : Int) 4)) _ 4 8 (by rw [hT, hH]; simp only [List.append_assoc]; rfl) (by rw [List.length_append, List.length_append, u8s_length, nb_length, u8s_length, nb_length]; rfl) (by rw [u8s_length, nb_length])) (nb_bytes _ _)
  have e5 : t.extract 8 (8 + body.size) = body := data_inj (ext_mid t ([68, 70] ++ u8s (nb kind 1) ++ u8s (nb 0 1) ++ u8s (nb (body.size : Int) 4)) body.data.toList _ 8 (8 + body.size) (by rw [hT, hH]; simp only [List.append_assoc]; rfl) (by simp only [List.length_append, u8s_length, nb_length]; rfl) (by rw [hbl]))
  have e6 : (t.extract 0 (8 + body.size)).data.toList = (strOfNums (frameHead kind body)).data.toList := ext_mid t [] (u8s (frameHead kind body)) _ 0 (8 + body.size) (by rw [hT]; simp only [List.append_assoc, List.nil_append]; rfl) rfl (by rw [u8s_length, hlen]; omega)
  have e7 : bytesOf (t.extract (8 + body.size) (12 + body.size)) = nb cr 4 := bytesOf_u8s _ _ (ext_mid t (u8s (frameHead kind body)) (u8s (nb cr 4)) _ (8 + body.size) (12 + body.size) (by rw [hT]) (by rw [u8s_length, hlen]) (by rw [u8s_length, nb_length]; omega)) (nb_bytes _ _)
  have k2 : bt t 2 = kind := by
    have := one_byte t 2 (by omega)
    rw [e2] at this
    simp only [nb, List.nil_append, List.cons.injEq, and_true] at this
    have h2 : bt t ((2 : Nat) : Int) = bt t 2 := rfl
    omega
  have k3 : bt t 3 = 0 := by
    have := one_byte t 3 (by omega)
    rw [e3] at this
    simp only [nb, List.nil_append, List.cons.injEq, and_true] at this
    have h2 : bt t ((3 : Nat) : Int) = bt t 3 := rfl
    omega
  have k4 : beN (bytesOf (t.extract 4 8)) = (body.size : Int) := by rw [e4, be_nb 4 _ (by omega) (by omega)]
  have k7 : beN (bytesOf (t.extract (8 + body.size) (12 + body.size))) = cr := by rw [e7, be_nb 4 _ hcr.1 (by have := hcr.2; omega)]
  unfold unf
  rw [if_neg (by omega), if_pos ⟨by rw [ByteArray.toList_eq, e1], k3, by rw [k4]; omega⟩, k4, Int.toNat_natCast]
  unfold unfR
  rw [if_neg (by omega), if_pos (by rw [k7, e6, hc]), k2, e5, hsz]

theorem ref_frame (kind : Int) (h0 : 0 ≤ kind) (h1 : kind ≤ 255) (body : ByteArray) : Ev (fun k => atriumref02_Frame.f k kind body) (frameRes kind body) := by
  unfold frameRes
  by_cases hb : body.size > 1048576
  · rw [if_pos hb]
    exact evIfPos (by omega) (Ev.now _)
  · rw [if_neg hb]
    have hh : (((⟨#[68, 70]⟩ : ByteArray) ++ strOfNums [kind, 0]) ++ strOfNums (nb (body.size : Int) 4)) ++ body = strOfNums (frameHead kind body) := by
      have hk : nb kind 1 ++ nb 0 1 = [kind, 0] := by simp only [nb, List.nil_append, List.singleton_append]; rw [show kind % 256 = kind by omega]; rfl
      rw [show frameHead kind body = [68, 70] ++ [kind, 0] ++ nb (body.size : Int) 4 ++ bytesOf body by rw [frameHead, ← hk]; simp only [List.append_assoc]]
      rw [str_append, str_append, str_append, str_back]; rfl
    have hlen := frameHead_length kind body
    have hz : (strOfNums (frameHead kind body)).size = 8 + body.size := by rw [strOfNums_size, hlen]
    have hcr := crc_range (strOfNums (frameHead kind body)).data.toList
    have z1 : (strOfNums [kind, 0]).size = 2 := rfl
    have z2 : (strOfNums (nb (body.size : Int) 4)).size = 4 := by rw [strOfNums_size, nb_length]
    have z3 : (⟨#[68, 70]⟩ : ByteArray).size = 2 := rfl
    refine evIfNeg (by omega) (evBindc rfl (evIfPos (by omega) ?_))
    rw [u64w (x := (body.size : Int)) (by omega) (by omega)]
    refine Ev.bind (number_ev (body.size : Int) (by omega) 4 (by decide)) (evIfPos (by simp only [ByteArray.size_append]; omega) (evIfPos (by simp only [ByteArray.size_append]; omega) ?_))
    rw [hh]
    refine Ev.bind (ref_crc _ (by omega)) ?_
    generalize crcOf (strOfNums (frameHead kind body)).data.toList = cr at *
    rw [u64w (x := cr) (by omega) (by omega)]
    refine Ev.bind (number_ev cr hcr.1 4 (by decide)) ?_
    have z4 : (strOfNums (nb cr 4)).size = 4 := by rw [strOfNums_size, nb_length]
    refine evIfPos (by omega) ?_
    rw [str_append]
    exact Ev.now _
end Go.Proofs.Ytjlohahknngmmaa.PureD

namespace Go.Proofs.Ytjlohahknngmmaa.Pure
set_option linter.unusedVariables false
open Go Go.RowKit Go.Proofs.Ytjlohahknngmmaa Go.Proofs.Ytjlohahknngmmaa.PD Go.Proofs.Ytjlohahknngmmaa.PureD Go.Proofs.Ytjlohahknngmmaa.PureQ Go.Proofs.YtjlohahknngmmaaW.PrintWords Go.Proofs.YtjlohahknngmmaaW.PrintLast
theorem CodecFrames : atriumlaw02_CodecFrames.Pure := by
  intro a0 a1 a2 w0 w1 w2
  have h0 : 0 ≤ a0 ∧ a0 ≤ 255 := by simpa [Lit.wf, IntKind.min, IntKind.max, IntKind.signed, IntKind.bits] using w0
  refine Ev.rounds (evBindc (show atriumlaw02_awake.f = some true from rfl) (evIfPos rfl (evBindc (show codec_Frame.f a0 a1 = some (frameRes a0 a1) by unfold codec_Frame.f; rw [if_pos h0]) (Ev.bind (ref_frame a0 h0.1 h0.2 a1) (evIfPos rfl ?_)))))
  rw [show ((frameRes a0 a1).2 != (frameRes a0 a1).2) = false by simp]
  refine Ev.step (fun k => by simp only [atriumlaw02_CodecFrames.j0]; exact rfl) (evIfNeg (show ¬ (false = true) by decide) ?_)
  by_cases hb : a1.size > 1048576
  · rw [show frameRes a0 a1 = (⟨#[]⟩, 3) by unfold frameRes; rw [if_pos hb]]
    exact evIfNeg (show ¬ (3 : Int) = 0 by decide) (Ev.now _)
  · have hu := unf_frame a0 h0.1 h0.2 a1 a2 (by omega) _ rfl
    have hz : (strOfNums (frameHead a0 a1 ++ nb (crcOf (strOfNums (frameHead a0 a1)).data.toList) 4)).size = 12 + a1.size := by rw [strOfNums_size, List.length_append, frameHead_length, nb_length]; omega
    rw [show frameRes a0 a1 = (strOfNums (frameHead a0 a1 ++ nb (crcOf (strOfNums (frameHead a0 a1)).data.toList) 4), 0) by unfold frameRes; rw [if_neg hb]]
    generalize strOfNums (frameHead a0 a1 ++ nb (crcOf (strOfNums (frameHead a0 a1)).data.toList) 4) = s at *
    refine evIfPos (show (0 : Int) = 0 from rfl) (evIfPos (by dsimp only; omega) (Ev.bind (codec_unf (s ++ a2) (by rw [ByteArray.size_append]; omega)) ?_))
    rw [hu]
    exact evIfPos rfl (evIfPos rfl (evIfPos rfl (Ev.now _)))
end Go.Proofs.Ytjlohahknngmmaa.Pure
