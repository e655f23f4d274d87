/- What the codec's Reader and the document's reading tell, step by step: plain. -/
import Derived.Test.YtjlohahknngmmaaVarC
import Derived.Test.YtjlohahknngmmaaCdW
namespace Go.Proofs.Ytjlohahknngmmaa.PureC
set_option linter.unusedVariables false
open Go Go.RowKit Go.Proofs.Ytjlohahknngmmaa Go.Proofs.Ytjlohahknngmmaa.PC Go.Proofs.YtjlohahknngmmaaW.PrintWords Go.Proofs.YtjlohahknngmmaaW.PrintLast

/-! ### Numbers of bytes, the highest first -/
def beN (l : List Int) : Int := l.foldl (fun n c => n * 256 + c) 0
def IsBytes (l : List Int) : Prop := ∀ c ∈ l, 0 ≤ c ∧ c ≤ 255
theorem bytesOf_are (s : ByteArray) : IsBytes (bytesOf s) := by
  intro c hc
  simp only [bytesOf, List.mem_map] at hc
  obtain ⟨b, _, rfl⟩ := hc
  have := b.toNat_lt
  omega
theorem be_fold (l : List Int) : ∀ (n : Int) (j : Nat), IsBytes l → 0 ≤ n → n < 256 ^ j → 0 ≤ l.foldl (fun n c => n * 256 + c) n ∧ l.foldl (fun n c => n * 256 + c) n < 256 ^ (j + l.length) := by
  induction l with
  | nil => intro n j _ h0 h1; exact ⟨h0, h1⟩
  | cons c l ih =>
    intro n j hb h0 h1
    have hc := hb c (List.mem_cons_self ..)
    have h2 := ih (n * 256 + c) (j + 1) (fun x hx => hb x (List.mem_cons_of_mem _ hx)) (by omega) (by rw [Int.pow_succ]; omega)
    rw [List.length_cons, show j + (l.length + 1) = j + 1 + l.length by omega]
    exact h2
theorem be_range (l : List Int) (hb : IsBytes l) : 0 ≤ beN l ∧ beN l < 256 ^ l.length := by
  have h := be_fold l 0 0 hb (by decide) (by decide)
  rw [Nat.zero_add] at h
  exact h
theorem pow_le8 {j : Nat} (h : j ≤ 7) : (256 : Int) ^ j ≤ 72057594037927936 := by
  have : j = 0 ∨ j = 1 ∨ j = 2 ∨ j = 3 ∨ j = 4 ∨ j = 5 ∨ j = 6 ∨ j = 7 := by omega
  rcases this with rfl | rfl | rfl | rfl | rfl | rfl | rfl | rfl <;> decide
theorem or_byte (n c : Int) (h0 : 0 ≤ n) (h1 : n < 72057594037927936) (c0 : 0 ≤ c) (c1 : c ≤ 255) : Go.bits .or .u64 (IntKind.u64.wrap (n * 256)) (IntKind.u64.wrap c) = n * 256 + c := by
  rw [u64w (by omega) (by omega), u64w (by omega) (by omega)]
  obtain ⟨n, rfl⟩ := Int.eq_ofNat_of_zero_le h0
  obtain ⟨c, rfl⟩ := Int.eq_ofNat_of_zero_le c0
  have h := or_add c n 8 (by omega) (by omega)
  have e : ((2 ^ 8 * n : Nat) : Int) = (n : Int) * 256 := by omega
  rw [e] at h
  rw [h]; omega
theorem read_fold (l : List Int) : ∀ (n : Int) (j : Nat), IsBytes l → 0 ≤ n → n < 256 ^ j → j + l.length ≤ 8 →
    l.foldl (fun n c => Go.bits .or .u64 (IntKind.u64.wrap (n * 256)) (IntKind.u64.wrap c)) n = l.foldl (fun n c => n * 256 + c) n := by
  induction l with
  | nil => intro n j _ _ _ _; rfl
  | cons c l ih =>
    intro n j hb h0 h1 hj
    rw [List.length_cons] at hj
    have hc := hb c (List.mem_cons_self ..)
    have hp := pow_le8 (j := j) (by omega)
    simp only [List.foldl_cons]
    rw [or_byte n c h0 (by omega) hc.1 hc.2]
    exact ih (n * 256 + c) (j + 1) (fun x hx => hb x (List.mem_cons_of_mem _ hx)) (by omega) (by rw [Int.pow_succ]; omega) (by omega)
theorem read_be (l : List Int) (hb : IsBytes l) (h : l.length ≤ 8) : codec_Reader_read.n l = beN l := read_fold l 0 0 hb (by decide) (by decide) (by omega)
theorem ref_read_loop (s : ByteArray) (hs : s.size ≤ 8) (d : Nat) : ∀ i, i + d = s.size → Ev (fun k => atriumref02_Read.l0 k s (beN ((bytesOf s).take i)) (i : Int)) (beN (bytesOf s)) := by
  have hl := bytesOf_length s
  induction d with
  | zero =>
    intro i hi
    refine Ev.step (fun k => by simp only [atriumref02_Read.l0]; exact rfl) (evIfNeg (by omega) ?_)
    rw [List.take_of_length_le (by omega)]
    exact Ev.now _
  | succ d ih =>
    intro i hi
    have h1 := ih (i + 1) (by omega)
    have hbt := rd_bytesOf s (i : Int)
    have hr := bt_range s (i : Int)
    have hg : (bytesOf s)[i]'(by omega) = bt s (i : Int) := by
      rw [← hbt]; simp [rd, List.getD_eq_getElem?_getD, List.getElem?_eq_getElem (show i < (bytesOf s).length by omega)]
    rw [List.take_succ_eq_append_getElem (show i < (bytesOf s).length by omega), hg] at h1
    rw [show beN ((bytesOf s).take i ++ [bt s (i : Int)]) = beN ((bytesOf s).take i) * 256 + bt s (i : Int) by simp [beN]] at h1
    have hb := be_range ((bytesOf s).take i) (fun x hx => bytesOf_are s x (List.mem_of_mem_take hx))
    have hp := pow_le8 (j := ((bytesOf s).take i).length) (by rw [List.length_take]; omega)
    generalize beN ((bytesOf s).take i) = n at *
    refine Ev.step (fun k => by simp only [atriumref02_Read.l0]; exact rfl) (evIfPos (by omega) (evIfPos (by omega) ?_))
    rw [wrap64_succ (by omega), u64w (x := n * 256) (by omega) (by omega), u64w (x := bt s (i : Int)) (by omega) (by omega), u64w (by omega) (by omega)]
    exact h1
theorem ref_read (s : ByteArray) (hs : s.size ≤ 8) : Ev (fun k => atriumref02_Read.f k s) (beN (bytesOf s)) := ref_read_loop s hs s.size 0 (by omega)

/-! ### One step of the Reader, and of the reading -/
def rawP (s : ByteArray) (e n : Int) : ByteArray × ByteArray × Int :=
  if e = 0 then (if n < 0 then (⟨#[]⟩, s, 1) else if n > (s.size : Int) then (⟨#[]⟩, s, 20) else (s.extract 0 n.toNat, s.extract n.toNat s.size, 0)) else (⟨#[]⟩, s, e)
def rawR (s : ByteArray) (e n : Int) : ByteArray × ByteArray × Int :=
  if e = 0 then (if n < 0 then (⟨#[]⟩, ⟨#[]⟩, 1) else if n > (s.size : Int) then (⟨#[]⟩, ⟨#[]⟩, 20) else (s.extract 0 n.toNat, s.extract n.toNat s.size, 0)) else (⟨#[]⟩, s, e)
theorem raw_eq (s : ByteArray) (e n : Int) : codec_Reader_Raw.f s e n = some (rawP s e n) := by
  unfold codec_Reader_Raw.f rawP
  by_cases he : e = 0
  · subst he
    rw [if_pos rfl, if_pos rfl]
    by_cases h1 : n < 0
    · rw [if_pos h1, if_pos h1]; rfl
    · rw [if_neg h1, if_neg h1]
      by_cases h2 : n > (s.size : Int)
      · rw [if_pos h2, if_pos h2]; rfl
      · rw [if_neg h2, if_neg h2, if_pos (by omega), if_pos (by omega)]
  · rw [if_neg he, if_neg he]
theorem rraw_eq (s : ByteArray) (e n : Int) : atriumlaw02_reading_raw.f s e n = some (rawR s e n) := by
  unfold atriumlaw02_reading_raw.f rawR
  by_cases he : e = 0
  · subst he
    rw [if_pos rfl, if_pos rfl]
    by_cases h1 : n < 0
    · rw [if_pos h1, if_pos h1]; rfl
    · rw [if_neg h1, if_neg h1]
      by_cases h2 : n > (s.size : Int)
      · rw [if_pos h2, if_pos h2]; rfl
      · rw [if_neg h2, if_neg h2, if_pos (by omega), if_pos (by omega)]
  · rw [if_neg he, if_neg he]

/-- The Reader (s, e) and the reading (l, e) tell the same from here on. -/
def Agree (s l : ByteArray) (e : Int) : Prop := (e = 0 → s = l) ∧ (e ≠ 0 → l = ⟨#[]⟩)
theorem raw_agree (s l : ByteArray) (e n : Int) (h : Agree s l e) : (rawP s e n).1 = (rawR l e n).1 ∧ (rawP s e n).2.2 = (rawR l e n).2.2 ∧ Agree (rawP s e n).2.1 (rawR l e n).2.1 (rawP s e n).2.2 := by
  unfold rawP rawR
  by_cases he : e = 0
  · have := h.1 he
    subst this
    subst he
    simp only [if_true]
    split
    · exact ⟨rfl, rfl, fun h => absurd h (show ¬ (1 : Int) = 0 by decide), fun _ => rfl⟩
    · split
      · exact ⟨rfl, rfl, fun h => absurd h (show ¬ (20 : Int) = 0 by decide), fun _ => rfl⟩
      · exact ⟨rfl, rfl, fun _ => rfl, fun h => absurd rfl h⟩
  · simp only [if_neg he]
    exact ⟨trivial, trivial, h⟩
theorem raw_size (s : ByteArray) (e : Int) (n : Nat) : (rawP s e n).1.size ≤ n ∧ (rawP s e n).2.1.size ≤ s.size := by
  unfold rawP
  split
  · split
    · exact ⟨Nat.zero_le _, Nat.le_refl _⟩
    · split
      · exact ⟨Nat.zero_le _, Nat.le_refl _⟩
      · simp only [ByteArray.size_extract]; omega
  · exact ⟨Nat.zero_le _, Nat.le_refl _⟩
theorem read_eq (s : ByteArray) (e : Int) (n : Nat) (hn : n ≤ 8) : codec_Reader_read.f s e n = some (beN (bytesOf (rawP s e n).1), (rawP s e n).2.1, (rawP s e n).2.2) := by
  have h := (raw_size s e n).1
  unfold codec_Reader_read.f
  rw [raw_eq, Option.bind_some, if_pos (by omega), read_be _ (bytesOf_are _) (by rw [bytesOf_length]; omega)]
end Go.Proofs.Ytjlohahknngmmaa.PureC
