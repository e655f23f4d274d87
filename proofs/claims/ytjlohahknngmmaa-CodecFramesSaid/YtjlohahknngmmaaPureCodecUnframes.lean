/- Proves that any text is unframed as the document says, and has the document's check sum. Method: both sides are one plain function of the bytes. Condition: none beyond the row's. -/
import Derived.Test.YtjlohahknngmmaaCrcD
namespace Go.Proofs.Ytjlohahknngmmaa.PureD
set_option linter.unusedVariables false
open Go Go.RowKit Go.Proofs.Ytjlohahknngmmaa Go.Proofs.Ytjlohahknngmmaa.PD Go.Proofs.Ytjlohahknngmmaa.PureQ Go.Proofs.YtjlohahknngmmaaW.PrintWords Go.Proofs.YtjlohahknngmmaaW.PrintLast

/-! ### Numbers of bytes, the highest first -/
def beN (l : List Int) : Int := l.foldl (fun n c => n * 256 + c) 0
def IsBytes (l : List Int) : Prop := ∀ c ∈ l, 0 ≤ c ∧ c ≤ 255
theorem bytesOf_are (s : ByteArray) : IsBytes (bytesOf s) := by
  intro c hc
  simp only [bytesOf, List.mem_map] at hc
  obtain ⟨b, _, rfl⟩ := hc
  have := b.toNat_lt
  omega
theorem be_fold (l : List Int) : ∀ (n : Int) (j : Nat), IsBytes l → 0 ≤ n → n < 256 ^ j → 0 ≤ l.foldl (fun n c => n * 256 + c) n ∧ l.foldl (fun n c => n * 256 + c) n < 256 ^ (j + l.length) := by
  induction l with
  | nil => intro n j _ h0 h1; exact ⟨h0, h1⟩
  | cons c l ih =>
    intro n j hb h0 h1
    have hc := hb c (List.mem_cons_self ..)
    have h2 := ih (n * 256 + c) (j + 1) (fun x hx => hb x (List.mem_cons_of_mem _ hx)) (by omega) (by rw [Int.pow_succ]; omega)
    rw [List.length_cons, show j + (l.length + 1) = j + 1 + l.length by omega]
    exact h2
theorem be_range (l : List Int) (hb : IsBytes l) : 0 ≤ beN l ∧ beN l < 256 ^ l.length := by
  have h := be_fold l 0 0 hb (by decide) (by decide)
  rw [Nat.zero_add] at h
  exact h
theorem pow_le8 {j : Nat} (h : j ≤ 7) : (256 : Int) ^ j ≤ 72057594037927936 := by
  have : j = 0 ∨ j = 1 ∨ j = 2 ∨ j = 3 ∨ j = 4 ∨ j = 5 ∨ j = 6 ∨ j = 7 := by omega
  rcases this with rfl | rfl | rfl | rfl | rfl | rfl | rfl | rfl <;> decide
theorem or_byte (n c : Int) (h0 : 0 ≤ n) (h1 : n < 72057594037927936) (c0 : 0 ≤ c) (c1 : c ≤ 255) : Go.bits .or .u64 (IntKind.u64.wrap (n * 256)) (IntKind.u64.wrap c) = n * 256 + c := by
  rw [u64w (by omega) (by omega), u64w (by omega) (by omega)]
  obtain ⟨n, rfl⟩ := Int.eq_ofNat_of_zero_le h0
  obtain ⟨c, rfl⟩ := Int.eq_ofNat_of_zero_le c0
  have h := or_add c n 8 (by omega) (by omega)
  have e : ((2 ^ 8 * n : Nat) : Int) = (n : Int) * 256 := by omega
  rw [e] at h
  rw [h]; omega
theorem read_fold (l : List Int) : ∀ (n : Int) (j : Nat), IsBytes l → 0 ≤ n → n < 256 ^ j → j + l.length ≤ 8 →
    l.foldl (fun n c => Go.bits .or .u64 (IntKind.u64.wrap (n * 256)) (IntKind.u64.wrap c)) n = l.foldl (fun n c => n * 256 + c) n := by
  induction l with
  | nil => intro n j _ _ _ _; rfl
  | cons c l ih =>
    intro n j hb h0 h1 hj
    rw [List.length_cons] at hj
    have hc := hb c (List.mem_cons_self ..)
    have hp := pow_le8 (j := j) (by omega)
    simp only [List.foldl_cons]
    rw [or_byte n c h0 (by omega) hc.1 hc.2]
    exact ih (n * 256 + c) (j + 1) (fun x hx => hb x (List.mem_cons_of_mem _ hx)) (by omega) (by rw [Int.pow_succ]; omega) (by omega)
theorem read_be (l : List Int) (hb : IsBytes l) (h : l.length ≤ 8) : codec_Reader_read.n l = beN l := read_fold l 0 0 hb (by decide) (by decide) (by omega)

/-- The document's reading of bytes. -/
theorem ref_read_loop (s : ByteArray) (hs : s.size ≤ 8) (d : Nat) : ∀ i, i + d = s.size → Ev (fun k => atriumref02_Read.l0 k s (beN ((bytesOf s).take i)) (i : Int)) (beN (bytesOf s)) := by
  have hl := bytesOf_length s
  induction d with
  | zero =>
    intro i hi
    refine Ev.step (fun k => by simp only [atriumref02_Read.l0]; exact rfl) (evIfNeg (by omega) ?_)
    rw [List.take_of_length_le (by omega)]
    exact Ev.now _
  | succ d ih =>
    intro i hi
    have h1 := ih (i + 1) (by omega)
    have hbt := rd_bytesOf s (i : Int)
    have hr := bt_range s (i : Int)
    have hg : (bytesOf s)[i]'(by omega) = bt s (i : Int) := by
      rw [← hbt]; simp [rd, List.getD_eq_getElem?_getD, List.getElem?_eq_getElem (show i < (bytesOf s).length by omega)]
    rw [List.take_succ_eq_append_getElem (show i < (bytesOf s).length by omega), hg] at h1
    rw [show beN ((bytesOf s).take i ++ [bt s (i : Int)]) = beN ((bytesOf s).take i) * 256 + bt s (i : Int) by simp [beN]] at h1
    have hb := be_range ((bytesOf s).take i) (fun x hx => bytesOf_are s x (List.mem_of_mem_take hx))
    have hp := pow_le8 (j := ((bytesOf s).take i).length) (by rw [List.length_take]; omega)
    generalize beN ((bytesOf s).take i) = n at *
    refine Ev.step (fun k => by simp only [atriumref02_Read.l0]; exact rfl) (evIfPos (by omega) (evIfPos (by omega) ?_))
    rw [wrap64_succ (by omega), u64w (x := n * 256) (by omega) (by omega), u64w (x := bt s (i : Int)) (by omega) (by omega), u64w (by omega) (by omega)]
    exact h1
theorem ref_read (s : ByteArray) (hs : s.size ≤ 8) : Ev (fun k => atriumref02_Read.f k s) (beN (bytesOf s)) := ref_read_loop s hs s.size 0 (by omega)

/-! ### The Reader at a place of a text -/
theorem raw_at (s : ByteArray) (p n : Nat) (h : p + n ≤ s.size) : codec_Reader_Raw.f (s.extract p s.size) 0 (n : Int) = some (s.extract p (p + n), s.extract (p + n) s.size, 0) := by
  have hz := extract_size s p
  unfold codec_Reader_Raw.f
  rw [if_pos rfl, if_neg (by omega), if_neg (by omega), if_pos (by omega), if_pos (by omega), Int.toNat_natCast, extract_rest s p n h, extract_rest2 s p n h]
theorem raw_short (s : ByteArray) (p n : Nat) (hp : p ≤ s.size) (h : s.size < p + n) : codec_Reader_Raw.f (s.extract p s.size) 0 (n : Int) = some (⟨#[]⟩, s.extract p s.size, 20) := by
  have hz := extract_size s p
  unfold codec_Reader_Raw.f
  rw [if_pos rfl, if_neg (by omega), if_pos (by omega)]
  rfl
theorem raw_err (s : ByteArray) (e n : Int) (he : e ≠ 0) : codec_Reader_Raw.f s e n = some (⟨#[]⟩, s, e) := by
  unfold codec_Reader_Raw.f
  rw [if_neg he]
theorem read_at (s : ByteArray) (p n : Nat) (hn : n ≤ 8) (h : p + n ≤ s.size) : codec_Reader_read.f (s.extract p s.size) 0 (n : Int) = some (beN (bytesOf (s.extract p (p + n))), s.extract (p + n) s.size, 0) := by
  have hz : (s.extract p (p + n)).size = n := by simp only [ByteArray.size_extract]; omega
  unfold codec_Reader_read.f
  rw [raw_at s p n h, Option.bind_some]
  dsimp only
  rw [if_pos (by omega), read_be _ (bytesOf_are _) (by rw [bytesOf_length]; omega)]
theorem read_short (s : ByteArray) (p n : Nat) (hp : p ≤ s.size) (h : s.size < p + n) : codec_Reader_read.f (s.extract p s.size) 0 (n : Int) = some (0, s.extract p s.size, 20) := by
  unfold codec_Reader_read.f
  rw [raw_short s p n hp h]
  rfl
theorem read_err (s : ByteArray) (e n : Int) (he : e ≠ 0) : codec_Reader_read.f s e n = some (0, s, e) := by
  unfold codec_Reader_read.f
  rw [raw_err s e n he]
  rfl
theorem one_byte (s : ByteArray) (p : Nat) (h : p < s.size) : bytesOf (s.extract p (p + 1)) = [bt s (p : Int)] := by
  have hl : s.data.toList.length = s.size := Array.length_toList
  rw [bt_nat s p h, bytesOf, ByteArray.data_extract, Array.toList_extract, List.extract_eq_take_drop, show p + 1 - p = 1 by omega, List.drop_eq_getElem_cons (by omega), List.take_succ_cons, List.take_zero]
  rfl
theorem u8_at (s : ByteArray) (p : Nat) (h : p < s.size) : codec_Reader_U8.f (s.extract p s.size) 0 = some (bt s (p : Int), s.extract (p + 1) s.size, 0) := by
  have hr := bt_range s (p : Int)
  unfold codec_Reader_U8.f
  have := read_at s p 1 (by decide) h
  rw [one_byte s p h, show beN [bt s (p : Int)] = bt s (p : Int) by simp [beN]] at this
  rw [show ((1 : Nat) : Int) = 1 from rfl] at this
  rw [this, Option.bind_some]
  simp only [Option.some.injEq, Prod.mk.injEq, and_true]
  omega
theorem be4 (s : ByteArray) (p : Nat) (h : p + 4 ≤ s.size) : 0 ≤ beN (bytesOf (s.extract p (p + 4))) ∧ beN (bytesOf (s.extract p (p + 4))) < 4294967296 := by
  have hr := be_range _ (bytesOf_are (s.extract p (p + 4)))
  rw [bytesOf_length, show (s.extract p (p + 4)).size = 4 by simp only [ByteArray.size_extract]; omega] at hr
  exact hr
theorem u32_at (s : ByteArray) (p : Nat) (h : p + 4 ≤ s.size) : codec_Reader_U32.f (s.extract p s.size) 0 = some (beN (bytesOf (s.extract p (p + 4))), s.extract (p + 4) s.size, 0) := by
  have hr := be4 s p h
  unfold codec_Reader_U32.f
  have := read_at s p 4 (by decide) h
  rw [show ((4 : Nat) : Int) = 4 from rfl] at this
  rw [this, Option.bind_some]
  simp only [Option.some.injEq, Prod.mk.injEq, and_true]
  omega
theorem u32_short (s : ByteArray) (p : Nat) (hp : p ≤ s.size) (h : s.size < p + 4) : codec_Reader_U32.f (s.extract p s.size) 0 = some (0, s.extract p s.size, 20) := by
  unfold codec_Reader_U32.f
  have := read_short s p 4 hp h
  rw [show ((4 : Nat) : Int) = 4 from rfl] at this
  rw [this]; rfl
theorem u32_err (s : ByteArray) (e : Int) (he : e ≠ 0) : codec_Reader_U32.f s e = some (0, s, e) := by
  unfold codec_Reader_U32.f
  rw [read_err s e 4 he]; rfl

/-! ### Unframe -/
/-- What any text is unframed to. -/
def unfR (s : ByteArray) (N : Nat) : Int × ByteArray × Int × Int :=
  if s.size < 12 + N then (0, ⟨#[]⟩, 0, 20)
  else if beN (bytesOf (s.extract (8 + N) (12 + N))) = crcOf (s.extract 0 (8 + N)).data.toList then (bt s 2, s.extract 8 (8 + N), ((12 + N : Nat) : Int), 0) else (0, ⟨#[]⟩, 0, 23)
def unf (s : ByteArray) : Int × ByteArray × Int × Int :=
  if s.size < 8 then (0, ⟨#[]⟩, 0, 20)
  else if (s.extract 0 2).toList = [68, 70] ∧ bt s 3 = 0 ∧ beN (bytesOf (s.extract 4 8)) ≤ 1048576 then unfR s (beN (bytesOf (s.extract 4 8))).toNat
  else (0, ⟨#[]⟩, 0, 21)

theorem codec_j0_bad (s : ByteArray) (x2 x9 : Int) (b : ByteArray) (e : Int) : Ev (fun k => codec_Unframe.j0 k s x2 x9 true b e) (0, ⟨#[]⟩, 0, 21) :=
  Ev.step (fun k => by simp only [codec_Unframe.j0]; exact rfl) (evIfPos (show (true = true) from rfl) (Ev.now _))

theorem codec_j0_good (s : ByteArray) (hs : s.size ≤ 281474976710656) (h8 : 8 ≤ s.size) (N : Nat) (hN : N ≤ 1048576) :
    Ev (fun k => codec_Unframe.j0 k s (bt s 2) (N : Int) false (s.extract 8 s.size) 0) (unfR s N) := by
  have hw : wrap64 (8 + (N : Int)) = ((8 + N : Nat) : Int) := by rw [wrap64_id (by omega) (by omega)]; omega
  have hw2 : wrap64 (((8 + N : Nat) : Int) + 4) = ((12 + N : Nat) : Int) := by rw [wrap64_id (by omega) (by omega)]; omega
  refine Ev.step (fun k => by simp only [codec_Unframe.j0]; exact rfl) (evIfNeg (show ¬ (false = true) by decide) ?_)
  by_cases h1 : s.size < 8 + N
  · refine evBindc (raw_short s 8 N h8 h1) (evBindc (u32_err _ 20 (by decide)) (evBindc (show codec_Reader_Err.f _ 20 = some _ from rfl) (evIfNeg (show ¬ (20 : Int) = 0 by decide) ?_)))
    rw [show unfR s N = (0, ⟨#[]⟩, 0, 20) by unfold unfR; rw [if_pos (by omega)]]
    exact Ev.now _
  · refine evBindc (raw_at s 8 N (by omega)) ?_
    by_cases h2 : s.size < 12 + N
    · refine evBindc (u32_short s (8 + N) (by omega) (by omega)) (evBindc (show codec_Reader_Err.f _ 20 = some _ from rfl) (evIfNeg (show ¬ (20 : Int) = 0 by decide) ?_))
      rw [show unfR s N = (0, ⟨#[]⟩, 0, 20) by unfold unfR; rw [if_pos (by omega)]]
      exact Ev.now _
    · have hu := u32_at s (8 + N) (by omega)
      rw [show 8 + N + 4 = 12 + N by omega] at hu
      refine evBindc hu (evBindc (show codec_Reader_Err.f _ 0 = some _ from rfl) (evIfPos (show (0 : Int) = 0 from rfl) ?_))
      simp only [hw, Int.toNat_natCast, hw2]
      refine evIfPos (by omega) (evIfPos (by omega) (Ev.bind (codec_crc (s.extract 0 (8 + N)) (by simp only [ByteArray.size_extract]; omega)) ?_))
      unfold unfR
      rw [if_neg h2]
      by_cases h3 : beN (bytesOf (s.extract (8 + N) (12 + N))) = crcOf (s.extract 0 (8 + N)).data.toList
      · rw [if_pos h3]
        exact evIfPos h3.symm (Ev.now _)
      · rw [if_neg h3]
        exact evIfNeg (fun e => h3 e.symm) (Ev.now _)

theorem codec_unf (s : ByteArray) (hs : s.size ≤ 281474976710656) : Ev (fun k => codec_Unframe.f k s) (unf s) := by
  unfold unf
  by_cases h8 : s.size < 8
  · rw [if_pos h8]
    exact evIfPos (by omega) (Ev.now _)
  · rw [if_neg h8]
    have h8' : 8 ≤ s.size := by omega
    have e0 := raw_at s 0 2 (by omega)
    rw [extract_all] at e0
    have hb : 0 ≤ beN (bytesOf (s.extract 4 8)) ∧ beN (bytesOf (s.extract 4 8)) < 4294967296 := be4 s 4 (by omega)
    have hw : wrap64 (beN (bytesOf (s.extract 4 8))) = beN (bytesOf (s.extract 4 8)) := wrap64_id (by omega) (by omega)
    refine evIfNeg (by omega) (evBindc (show codec_NewReader.f s = some (s, 0) from rfl) (evBindc e0 (evBindc (u8_at s 2 (by omega)) (evBindc (u8_at s 3 (by omega)) (evBindc (u32_at s 4 (by omega)) ?_)))))
    simp only [hw]
    by_cases h1 : (s.extract 0 2).toList = [68, 70]
    · refine evIfPos h1 ?_
      by_cases h2 : bt s 3 = 0
      · refine evIfPos h2 ?_
        by_cases h3 : beN (bytesOf (s.extract 4 8)) ≤ 1048576
        · rw [if_pos ⟨h1, h2, h3⟩, decide_eq_false (by omega)]
          have hj := codec_j0_good s hs h8' (beN (bytesOf (s.extract 4 8))).toNat (by omega)
          rw [Int.toNat_of_nonneg hb.1] at hj
          exact hj
        · rw [if_neg (fun h => h3 h.2.2), decide_eq_true (by omega)]
          exact codec_j0_bad ..
      · rw [if_neg (fun h => h2 h.2.1)]
        exact evIfNeg h2 (codec_j0_bad ..)
    · rw [if_neg (fun h => h1 h.1)]
      exact evIfNeg h1 (codec_j0_bad ..)

theorem ref_j0_bad (s : ByteArray) (x6 : Int) : Ev (fun k => atriumref02_Unframe.j0 k s x6 true) (0, ⟨#[]⟩, 0, 21) :=
  Ev.step (fun k => by simp only [atriumref02_Unframe.j0]; exact rfl) (evIfPos (show (true = true) from rfl) (Ev.now _))

theorem ref_j0_good (s : ByteArray) (hs : s.size ≤ 281474976710656) (h8 : 8 ≤ s.size) (N : Nat) (hN : N ≤ 1048576) :
    Ev (fun k => atriumref02_Unframe.j0 k s (N : Int) false) (unfR s N) := by
  have hw0 : wrap64 (N : Int) = (N : Int) := wrap64_id (by omega) (by omega)
  have hw : wrap64 (12 + (N : Int)) = ((12 + N : Nat) : Int) := by rw [wrap64_id (by omega) (by omega)]; omega
  have hw2 : wrap64 (((12 + N : Nat) : Int) - 4) = ((8 + N : Nat) : Int) := by rw [wrap64_id (by omega) (by omega)]; omega
  refine Ev.step (fun k => by simp only [atriumref02_Unframe.j0]; exact rfl) (evIfNeg (show ¬ (false = true) by decide) ?_)
  simp only [hw0, hw, hw2, Int.toNat_natCast]
  unfold unfR
  by_cases h2 : s.size < 12 + N
  · rw [if_pos h2]
    exact evIfPos (by omega) (Ev.now _)
  · rw [if_neg h2]
    have hc := crc_range (s.extract 0 (8 + N)).data.toList
    refine evIfNeg (by omega) (evIfPos (by omega) (evIfPos (by omega) (evIfPos (by omega) (Ev.bind (ref_read (s.extract (8 + N) (12 + N)) (by simp only [ByteArray.size_extract]; omega)) (evIfPos (by omega) (Ev.bind (ref_crc (s.extract 0 (8 + N)) (by simp only [ByteArray.size_extract]; omega)) ?_))))))
    rw [u64w (by omega) (by omega)]
    by_cases h3 : beN (bytesOf (s.extract (8 + N) (12 + N))) = crcOf (s.extract 0 (8 + N)).data.toList
    · simp only [if_pos h3]
      exact evIfPos (by omega) (evIfPos (by omega) (Ev.now _))
    · simp only [if_neg h3]
      exact Ev.now _

theorem ref_unf (s : ByteArray) (hs : s.size ≤ 281474976710656) : Ev (fun k => atriumref02_Unframe.f k s) (unf s) := by
  unfold unf
  by_cases h8 : s.size < 8
  · rw [if_pos h8]
    exact evIfPos (by omega) (Ev.now _)
  · rw [if_neg h8]
    have hb : 0 ≤ beN (bytesOf (s.extract 4 8)) ∧ beN (bytesOf (s.extract 4 8)) < 4294967296 := be4 s 4 (by omega)
    refine evIfNeg (by omega) (evIfPos (by omega) (evIfPos (by omega) (Ev.bind (ref_read (s.extract 4 8) (by simp only [ByteArray.size_extract]; omega)) (evIfPos (by omega) (evIfPos (by omega) ?_)))))
    by_cases h1 : (s.extract 0 2).toList = [68, 70]
    · refine evIfPos h1 (evIfPos (by omega) ?_)
      by_cases h2 : bt s 3 = 0
      · refine evIfPos h2 ?_
        by_cases h3 : beN (bytesOf (s.extract 4 8)) ≤ 1048576
        · rw [if_pos ⟨h1, h2, h3⟩, decide_eq_false (by omega)]
          have hj := ref_j0_good s hs (by omega) (beN (bytesOf (s.extract 4 8))).toNat (by omega)
          rw [Int.toNat_of_nonneg hb.1] at hj
          exact hj
        · rw [if_neg (fun h => h3 h.2.2), decide_eq_true (by omega)]
          exact ref_j0_bad ..
      · rw [if_neg (fun h => h2 h.2.1)]
        exact evIfNeg h2 (ref_j0_bad ..)
    · rw [if_neg (fun h => h1 h.1)]
      exact evIfNeg h1 (ref_j0_bad ..)
end Go.Proofs.Ytjlohahknngmmaa.PureD

namespace Go.Proofs.Ytjlohahknngmmaa.Pure
set_option linter.unusedVariables false
open Go Go.RowKit Go.Proofs.Ytjlohahknngmmaa Go.Proofs.Ytjlohahknngmmaa.PD Go.Proofs.Ytjlohahknngmmaa.PureD Go.Proofs.Ytjlohahknngmmaa.PureQ Go.Proofs.YtjlohahknngmmaaW.PrintWords Go.Proofs.YtjlohahknngmmaaW.PrintLast
theorem CodecUnframes : atriumlaw02_CodecUnframes.Pure := by
  intro s hs
  refine Ev.rounds (Ev.bind (codec_unf s (by omega)) (Ev.bind (ref_unf s (by omega)) (evBindc (show atriumlaw02_awake.f = some true from rfl) (evIfPos rfl (evIfPos rfl (evIfPos rfl (evIfPos rfl (evIfPos rfl (Ev.bind (codec_crc s (by omega)) (Ev.bind (ref_crc s (by omega)) ?_))))))))))
  rw [show (crcOf s.data.toList == crcOf s.data.toList) = true by simp]
  exact Ev.now _
end Go.Proofs.Ytjlohahknngmmaa.Pure
