/- What the codec's Reader and the document's reading tell, step by step: plain. -/
import Derived.Test.YtjlohahknngmmaaCdV
import Derived.RegionTactic
import Derived.ChangeAlike
import Derived.BigRegion
import Derived.Deep.RegionHeld3
import Derived.Deep.DrawnRows
namespace Go.Proofs.Ytjlohahknngmmaa.PureC
set_option linter.unusedVariables false
open Go Go.RowKit Go.Proofs.Ytjlohahknngmmaa Go.Proofs.Ytjlohahknngmmaa.PC Go.Proofs.YtjlohahknngmmaaW.PrintWords Go.Proofs.YtjlohahknngmmaaW.PrintLast

/-! ### Numbers of bytes, the highest first -/
def beN (l : List Int) : Int := l.foldl (fun n c => n * 256 + c) 0
def IsBytes (l : List Int) : Prop := ∀ c ∈ l, 0 ≤ c ∧ c ≤ 255
theorem bytesOf_are (s : ByteArray) : IsBytes (bytesOf s) := by
  intro c hc
  simp only [bytesOf, List.mem_map] at hc
  obtain ⟨b, _, rfl⟩ := hc
  have := b.toNat_lt
  omega
theorem be_fold (l : List Int) : ∀ (n : Int) (j : Nat), IsBytes l → 0 ≤ n → n < 256 ^ j → 0 ≤ l.foldl (fun n c => n * 256 + c) n ∧ l.foldl (fun n c => n * 256 + c) n < 256 ^ (j + l.length) := by
  induction l with
  | nil => intro n j _ h0 h1; exact ⟨h0, h1⟩
  | cons c l ih =>
    intro n j hb h0 h1
    have hc := hb c (List.mem_cons_self ..)
    have h2 := ih (n * 256 + c) (j + 1) (fun x hx => hb x (List.mem_cons_of_mem _ hx)) (by omega) (by rw [Int.pow_succ]; omega)
    rw [List.length_cons, show j + (l.length + 1) = j + 1 + l.length by omega]
    exact h2
theorem be_range (l : List Int) (hb : IsBytes l) : 0 ≤ beN l ∧ beN l < 256 ^ l.length := by
  have h := be_fold l 0 0 hb (by decide) (by decide)
  rw [Nat.zero_add] at h
  exact h
theorem pow_le8 {j : Nat} (h : j ≤ 7) : (256 : Int) ^ j ≤ 72057594037927936 := by
  have : j = 0 ∨ j = 1 ∨ j = 2 ∨ j = 3 ∨ j = 4 ∨ j = 5 ∨ j = 6 ∨ j = 7 := by omega
  rcases this with rfl | rfl | rfl | rfl | rfl | rfl | rfl | rfl <;> decide
theorem or_byte (n c : Int) (h0 : 0 ≤ n) (h1 : n < 72057594037927936) (c0 : 0 ≤ c) (c1 : c ≤ 255) : Go.bits .or .u64 (IntKind.u64.wrap (n * 256)) (IntKind.u64.wrap c) = n * 256 + c := by
  rw [u64w (by omega) (by omega), u64w (by omega) (by omega)]
  obtain ⟨n, rfl⟩ := Int.eq_ofNat_of_zero_le h0
  obtain ⟨c, rfl⟩ := Int.eq_ofNat_of_zero_le c0
  have h := or_add c n 8 (by omega) (by omega)
  have e : ((2 ^ 8 * n : Nat) : Int) = (n : Int) * 256 := by omega
  rw [e] at h
  rw [h]; omega
theorem read_fold (l : List Int) : ∀ (n : Int) (j : Nat), IsBytes l → 0 ≤ n → n < 256 ^ j → j + l.length ≤ 8 →
    l.foldl (fun n c => Go.bits .or .u64 (IntKind.u64.wrap (n * 256)) (IntKind.u64.wrap c)) n = l.foldl (fun n c => n * 256 + c) n := by
  induction l with
  | nil => intro n j _ _ _ _; rfl
  | cons c l ih =>
    intro n j hb h0 h1 hj
    rw [List.length_cons] at hj
    have hc := hb c (List.mem_cons_self ..)
    have hp := pow_le8 (j := j) (by omega)
    simp only [List.foldl_cons]
    rw [or_byte n c h0 (by omega) hc.1 hc.2]
    exact ih (n * 256 + c) (j + 1) (fun x hx => hb x (List.mem_cons_of_mem _ hx)) (by omega) (by rw [Int.pow_succ]; omega) (by omega)
theorem read_be (l : List Int) (hb : IsBytes l) (h : l.length ≤ 8) : codec_Reader_read.n l = beN l := read_fold l 0 0 hb (by decide) (by decide) (by omega)
theorem ref_read_loop (s : ByteArray) (hs : s.size ≤ 8) (d : Nat) : ∀ i, i + d = s.size → Ev (fun k => atriumref02_Read.l0 k s (beN ((bytesOf s).take i)) (i : Int)) (beN (bytesOf s)) := by
  have hl := bytesOf_length s
  induction d with
  | zero =>
    intro i hi
    refine Ev.step (fun k => by simp only [atriumref02_Read.l0]; exact rfl) (evIfNeg (by omega) ?_)
    rw [List.take_of_length_le (by omega)]
    exact Ev.now _
  | succ d ih =>
    intro i hi
    have h1 := ih (i + 1) (by omega)
    have hbt := rd_bytesOf s (i : Int)
    have hr := bt_range s (i : Int)
    have hg : (bytesOf s)[i]'(by omega) = bt s (i : Int) := by
      rw [← hbt]; simp [rd, List.getD_eq_getElem?_getD, List.getElem?_eq_getElem (show i < (bytesOf s).length by omega)]
    rw [List.take_succ_eq_append_getElem (show i < (bytesOf s).length by omega), hg] at h1
    rw [show beN ((bytesOf s).take i ++ [bt s (i : Int)]) = beN ((bytesOf s).take i) * 256 + bt s (i : Int) by simp [beN]] at h1
    have hb := be_range ((bytesOf s).take i) (fun x hx => bytesOf_are s x (List.mem_of_mem_take hx))
    have hp := pow_le8 (j := ((bytesOf s).take i).length) (by rw [List.length_take]; omega)
    generalize beN ((bytesOf s).take i) = n at *
    refine Ev.step (fun k => by simp only [atriumref02_Read.l0]; exact rfl) (evIfPos (by omega) (evIfPos (by omega) ?_))
    rw [wrap64_succ (by omega), u64w (x := n * 256) (by omega) (by omega), u64w (x := bt s (i : Int)) (by omega) (by omega), u64w (by omega) (by omega)]
    exact h1
theorem ref_read (s : ByteArray) (hs : s.size ≤ 8) : Ev (fun k => atriumref02_Read.f k s) (beN (bytesOf s)) := ref_read_loop s hs s.size 0 (by omega)

/-! ### One step of the Reader, and of the reading -/
def rawP (s : ByteArray) (e n : Int) : ByteArray × ByteArray × Int :=
  if e = 0 then (if n < 0 then (⟨#[]⟩, s, 1) else if n > (s.size : Int) then (⟨#[]⟩, s, 20) else (s.extract 0 n.toNat, s.extract n.toNat s.size, 0)) else (⟨#[]⟩, s, e)
def rawR (s : ByteArray) (e n : Int) : ByteArray × ByteArray × Int :=
  if e = 0 then (if n < 0 then (⟨#[]⟩, ⟨#[]⟩, 1) else if n > (s.size : Int) then (⟨#[]⟩, ⟨#[]⟩, 20) else (s.extract 0 n.toNat, s.extract n.toNat s.size, 0)) else (⟨#[]⟩, s, e)
theorem raw_eq (s : ByteArray) (e n : Int) : codec_Reader_Raw.f s e n = some (rawP s e n) := by
  unfold codec_Reader_Raw.f rawP
  by_cases he : e = 0
  · subst he
    rw [if_pos rfl, if_pos rfl]
    by_cases h1 : n < 0
    · rw [if_pos h1, if_pos h1]; rfl
    · rw [if_neg h1, if_neg h1]
      by_cases h2 : n > (s.size : Int)
      · rw [if_pos h2, if_pos h2]; rfl
      · rw [if_neg h2, if_neg h2, if_pos (by omega), if_pos (by omega)]
  · rw [if_neg he, if_neg he]
theorem rraw_eq (s : ByteArray) (e n : Int) : atriumlaw02_reading_raw.f s e n = some (rawR s e n) := by
  unfold atriumlaw02_reading_raw.f rawR
  by_cases he : e = 0
  · subst he
    rw [if_pos rfl, if_pos rfl]
    by_cases h1 : n < 0
    · rw [if_pos h1, if_pos h1]; rfl
    · rw [if_neg h1, if_neg h1]
      by_cases h2 : n > (s.size : Int)
      · rw [if_pos h2, if_pos h2]; rfl
      · rw [if_neg h2, if_neg h2, if_pos (by omega), if_pos (by omega)]
  · rw [if_neg he, if_neg he]

/-- The Reader (s, e) and the reading (l, e) tell the same from here on. -/
def Agree (s l : ByteArray) (e : Int) : Prop := (e = 0 → s = l) ∧ (e ≠ 0 → l = ⟨#[]⟩)
theorem raw_agree (s l : ByteArray) (e n : Int) (h : Agree s l e) : (rawP s e n).1 = (rawR l e n).1 ∧ (rawP s e n).2.2 = (rawR l e n).2.2 ∧ Agree (rawP s e n).2.1 (rawR l e n).2.1 (rawP s e n).2.2 := by
  unfold rawP rawR
  by_cases he : e = 0
  · have := h.1 he
    subst this
    subst he
    simp only [if_true]
    split
    · exact ⟨rfl, rfl, fun h => absurd h (show ¬ (1 : Int) = 0 by decide), fun _ => rfl⟩
    · split
      · exact ⟨rfl, rfl, fun h => absurd h (show ¬ (20 : Int) = 0 by decide), fun _ => rfl⟩
      · exact ⟨rfl, rfl, fun _ => rfl, fun h => absurd rfl h⟩
  · simp only [if_neg he]
    exact ⟨trivial, trivial, h⟩
theorem raw_size (s : ByteArray) (e : Int) (n : Nat) : (rawP s e n).1.size ≤ n ∧ (rawP s e n).2.1.size ≤ s.size := by
  unfold rawP
  split
  · split
    · exact ⟨Nat.zero_le _, Nat.le_refl _⟩
    · split
      · exact ⟨Nat.zero_le _, Nat.le_refl _⟩
      · simp only [ByteArray.size_extract]; omega
  · exact ⟨Nat.zero_le _, Nat.le_refl _⟩
theorem read_eq (s : ByteArray) (e : Int) (n : Nat) (hn : n ≤ 8) : codec_Reader_read.f s e n = some (beN (bytesOf (rawP s e n).1), (rawP s e n).2.1, (rawP s e n).2.2) := by
  have h := (raw_size s e n).1
  unfold codec_Reader_read.f
  rw [raw_eq, Option.bind_some, if_pos (by omega), read_be _ (bytesOf_are _) (by rw [bytesOf_length]; omega)]
end Go.Proofs.Ytjlohahknngmmaa.PureC
/- Varints and texts: what the codec's Reader and the document's reading tell: plain. -/
namespace Go.Proofs.Ytjlohahknngmmaa.PureC
set_option linter.unusedVariables false
open Go Go.RowKit Go.Proofs.Ytjlohahknngmmaa Go.Proofs.Ytjlohahknngmmaa.PC Go.Proofs.YtjlohahknngmmaaW.PrintWords Go.Proofs.YtjlohahknngmmaaW.PrintLast

theorem rv_facts (t : List Int) : ∀ p : List Int, IsBytes t → ((rv p t).2.2 = 0 ∧ (p.length : Int) < (rv p t).2.1 ∧ (rv p t).2.1 ≤ p.length + t.length) ∨ (rv p t) = (0, 0, 20) ∨ (rv p t) = (0, 0, 21) := by
  induction t with
  | nil => intro p _; exact .inr (.inl rfl)
  | cons c t ih =>
    intro p hb
    simp only [rv]
    split
    · exact .inr (.inr rfl)
    · split
      · split
        · exact .inr (.inr rfl)
        · refine .inl ⟨rfl, ?_, ?_⟩
          · show (p.length : Int) < p.length + 1
            omega
          · show (p.length : Int) + 1 ≤ _
            simp only [List.length_cons]; omega
      · rcases ih (p ++ [c]) (fun x hx => hb x (List.mem_cons_of_mem _ hx)) with ⟨h1, h2, h3⟩ | h | h
        · rw [List.length_append, List.length_singleton] at h2 h3
          exact .inl ⟨h1, by omega, by simp only [List.length_cons]; omega⟩
        · exact .inr (.inl h)
        · exact .inr (.inr h)

theorem pow128_9 {i : Nat} (h : i ≤ 9) : (128 : Int) ^ i ≤ 9223372036854775808 := by
  have : i = 0 ∨ i = 1 ∨ i = 2 ∨ i = 3 ∨ i = 4 ∨ i = 5 ∨ i = 6 ∨ i = 7 ∨ i = 8 ∨ i = 9 := by omega
  rcases this with rfl | rfl | rfl | rfl | rfl | rfl | rfl | rfl | rfl | rfl <;> decide

/-- The document's number, from its highest group. -/
theorem ref_l1 (s : ByteArray) (L : List Int) (i : Nat) (hi : i ≤ 9) (hL : bytesOf s = L) (hs : i < L.length) (hv : lv (L.take (i + 1)) < 18446744073709551616) (j : Nat) : j ≤ i + 1 →
    Ev (fun k => atriumref02_ReadVarint.l1 k s (i : Int) (lv ((L.take (i + 1)).drop j)) ((j : Int) - 1)) (lv (L.take (i + 1)), (i : Int) + 1, 0) := by
  have hl : L.length = s.size := by rw [← hL, bytesOf_length]
  have hw : wrap64 ((i : Int) + 1) = (i : Int) + 1 := wrap64_id (by omega) (by omega)
  induction j with
  | zero =>
    intro _
    refine Ev.step (fun k => by simp only [atriumref02_ReadVarint.l1]; exact rfl) (evIfNeg (by omega) ?_)
    rw [hw, List.drop_zero]
    exact Ev.now _
  | succ j ih =>
    intro hj
    have h1 := ih (by omega)
    have e1 : ((j + 1 : Nat) : Int) - 1 = (j : Int) := by omega
    have e2 : wrap64 ((j : Int) - 1) = (j : Int) - 1 := wrap64_id (by omega) (by omega)
    have hlt : (L.take (i + 1)).length = i + 1 := by rw [List.length_take]; omega
    have hbt : bt s (j : Int) = (L.take (i + 1))[j]'(by omega) := by
      rw [← rd_bytesOf, hL]; simp [rd, List.getD_eq_getElem?_getD, List.getElem?_eq_getElem (show j < L.length by omega)]
    have hr := bt_range s (j : Int)
    have hd : lv ((L.take (i + 1)).drop j) = bt s (j : Int) % 128 + 128 * lv ((L.take (i + 1)).drop (j + 1)) := by
      rw [List.drop_eq_getElem_cons (by omega), lv, hbt]
    have hrg := lv_range ((L.take (i + 1)).drop (j + 1))
    have hlen : ((L.take (i + 1)).drop (j + 1)).length = i - j := by rw [List.length_drop, hlt]; omega
    rw [hlen] at hrg
    have hb : lv ((L.take (i + 1)).drop j) < 18446744073709551616 := by
      cases j with
      | zero => rw [List.drop_zero]; exact hv
      | succ j =>
        have h2 := lv_range ((L.take (i + 1)).drop (j + 1))
        have h3 : ((L.take (i + 1)).drop (j + 1)).length = i - j := by rw [List.length_drop, hlt]; omega
        rw [h3] at h2
        have := pow128_9 (i := i - j) (by omega)
        omega
    rw [e1]
    refine Ev.step (fun k => by simp only [atriumref02_ReadVarint.l1]; exact rfl) (evIfPos (by omega) (evIfPos (by omega) (evIfPos (by omega) ?_)))
    rw [e2, show Int.tmod (bt s (j : Int)) 128 = bt s (j : Int) % 128 from Int.tmod_eq_emod_of_nonneg hr.1]
    rw [hd] at hb h1
    generalize lv ((L.take (i + 1)).drop (j + 1)) = x at *
    rw [u64w (x := x * 128) (by omega) (by omega), u64w (x := bt s (j : Int) % 128) (by omega) (by omega), u64w (by omega) (by omega), show x * 128 + bt s (j : Int) % 128 = bt s (j : Int) % 128 + 128 * x by omega]
    exact h1

theorem ref_shape_loop (s : ByteArray) (hs : s.size ≤ 281474976710656) (t : List Int) : ∀ (p : List Int), bytesOf s = p ++ t → p.length ≤ 9 → Ev (fun k => atriumref02_ReadVarint.l0 k s (p.length : Int)) (rv p t) := by
  have hl := bytesOf_length s
  induction t with
  | nil =>
    intro p hp h9
    rw [hp] at hl
    simp at hl
    exact Ev.step (fun k => by simp only [atriumref02_ReadVarint.l0]; exact rfl) (evIfPos (by omega) (evIfPos (by omega) (Ev.now _)))
  | cons c t ih =>
    intro p hp h9
    have hl2 := hl
    rw [hp] at hl2
    simp at hl2
    have hbt : bt s (p.length : Int) = c := by
      rw [← rd_bytesOf, hp]; simp [rd, List.getD_eq_getElem?_getD]
    have hr := bt_range s (p.length : Int)
    rw [hbt] at hr
    have e1 : wrap64 ((p.length : Int) + 1) = (p.length : Int) + 1 := wrap64_id (by omega) (by omega)
    refine Ev.step (fun k => by simp only [atriumref02_ReadVarint.l0]; exact rfl) (evIfPos (by omega) (evIfNeg (by omega) ?_))
    rw [rv]
    have htk : (p ++ c :: t).take (p.length + 1) = p ++ [c] := by rw [List.take_append]; simp; exact List.take_of_length_le (by omega)
    have good : (p.length = 9 → c ≤ 1) → ¬ (p.length = 9 ∧ c = 0) → Ev (fun k => atriumref02_ReadVarint.j1 k s (p.length : Int) false) (if c < 128 then (if c = 0 ∧ 0 < p.length then (0, 0, 21) else (lv (p ++ [c]), (p.length : Int) + 1, 0)) else rv (p ++ [c]) t) := by
      intro h9c h9z
      refine Ev.step (fun k => by simp only [atriumref02_ReadVarint.j1]; exact rfl) (evIfNeg (show ¬ (false = true) by decide) (evIfPos (by omega) (evIfPos (by omega) ?_)))
      rw [hbt, e1]
      by_cases hc : c < 128
      · rw [if_pos hc]
        refine evIfNeg (by omega) ?_
        have fin : Ev (fun k => atriumref02_ReadVarint.l1 k s (p.length : Int) 0 (p.length : Int)) (lv (p ++ [c]), (p.length : Int) + 1, 0) := by
          have hb : lv (p ++ [c]) < 18446744073709551616 := by
            rw [lv_snoc]
            have h2 := lv_range p
            have h3 := pow128_9 h9
            by_cases h8 : p.length ≤ 8
            · have h4 := lv_range (p ++ [c])
              rw [lv_snoc, List.length_append, List.length_singleton] at h4
              have h5 := pow128_9 (i := p.length + 1) (by omega)
              omega
            · have h6 : c = 1 := by have := h9c (by omega); omega
              rw [h6, show (1 : Int) % 128 = 1 by decide, Int.mul_one]
              omega
          have h := ref_l1 s (p ++ c :: t) p.length h9 hp (by simp) (by rw [htk]; exact hb) (p.length + 1) (Nat.le_refl _)
          rw [htk, List.drop_of_length_le (by simp)] at h
          rw [show ((p.length + 1 : Nat) : Int) - 1 = (p.length : Int) by omega] at h
          exact h
        by_cases hc0 : c = 0
        · refine evIfPos hc0 ?_
          by_cases hp0 : 0 < p.length
          · rw [if_pos (show c = 0 ∧ 0 < p.length from ⟨hc0, hp0⟩), show decide ((p.length : Int) > 0) = true from decide_eq_true (by omega)]
            exact Ev.step (fun k => by simp only [atriumref02_ReadVarint.j2]; exact rfl) (evIfPos (show true = true from rfl) (Ev.now _))
          · rw [if_neg (show ¬ (c = 0 ∧ 0 < p.length) from fun h => hp0 h.2), show decide ((p.length : Int) > 0) = false from decide_eq_false (by omega)]
            exact Ev.step (fun k => by simp only [atriumref02_ReadVarint.j2]; exact rfl) (evIfNeg (show ¬ (false = true) by decide) fin)
        · rw [if_neg (show ¬ (c = 0 ∧ 0 < p.length) from fun h => hc0 h.1)]
          exact evIfNeg hc0 (Ev.step (fun k => by simp only [atriumref02_ReadVarint.j2]; exact rfl) (evIfNeg (show ¬ (false = true) by decide) fin))
      · rw [if_neg hc]
        refine evIfPos (by omega) ?_
        have h := ih (p ++ [c]) (by rw [hp]; simp) (by
          rw [List.length_append, List.length_singleton]
          have : p.length ≠ 9 := fun h => by have := h9c h; omega
          omega)
        rw [List.length_append, List.length_singleton] at h
        exact h
    by_cases hp9 : p.length = 9
    · refine evIfPos (by omega) (evIfPos (by omega) ?_)
      have hb9 : bt s 9 = c := by rw [← hbt, hp9]; rfl
      rw [hb9]
      by_cases hc1 : c > 1
      · rw [if_pos (show p.length = 9 ∧ c ≠ 1 from ⟨hp9, by omega⟩), decide_eq_true hc1]
        exact Ev.step (fun k => by simp only [atriumref02_ReadVarint.j1]; exact rfl) (evIfPos (show true = true from rfl) (Ev.now _))
      · rw [decide_eq_false hc1]
        by_cases hc0 : c = 0
        · rw [if_pos (show p.length = 9 ∧ c ≠ 1 from ⟨hp9, by omega⟩)]
          refine Ev.step (fun k => by simp only [atriumref02_ReadVarint.j1]; exact rfl) (evIfNeg (show ¬ (false = true) by decide) (evIfPos (by omega) (evIfPos (by omega) ?_)))
          rw [hbt]
          refine evIfNeg (by omega) (evIfPos hc0 ?_)
          rw [decide_eq_true (show (p.length : Int) > 0 by omega)]
          exact Ev.step (fun k => by simp only [atriumref02_ReadVarint.j2]; exact rfl) (evIfPos (show true = true from rfl) (Ev.now _))
        · rw [if_neg (show ¬ (p.length = 9 ∧ c ≠ 1) from fun h => h.2 (by omega))]
          exact good (fun _ => by omega) (fun h => hc0 h.2)
    · rw [if_neg (show ¬ (p.length = 9 ∧ c ≠ 1) from fun h => hp9 h.1)]
      exact evIfNeg (by omega) (good (fun h => absurd h hp9) (fun h => hp9 h.1))
theorem ref_shape_ev (s : ByteArray) (hs : s.size ≤ 281474976710656) : Ev (fun k => atriumref02_ReadVarint.f k s) (rv [] (bytesOf s)) := ref_shape_loop s hs (bytesOf s) [] rfl (by decide)
end Go.Proofs.Ytjlohahknngmmaa.PureC
namespace Go.Proofs.Ytjlohahknngmmaa.PureC
set_option linter.unusedVariables false
open Go Go.RowKit Go.Proofs.Ytjlohahknngmmaa Go.Proofs.Ytjlohahknngmmaa.PC Go.Proofs.YtjlohahknngmmaaW.PrintWords Go.Proofs.YtjlohahknngmmaaW.PrintLast
def varP (s : ByteArray) (e : Int) : Int × ByteArray × Int :=
  if e = 0 then (if (rv [] (bytesOf s)).2.2 = 0 then ((rv [] (bytesOf s)).1, s.extract (rv [] (bytesOf s)).2.1.toNat s.size, 0) else (0, s, (rv [] (bytesOf s)).2.2)) else (0, s, e)
def varR (s : ByteArray) (e : Int) : Int × ByteArray × Int :=
  if e = 0 then (if (rv [] (bytesOf s)).2.2 = 0 then ((rv [] (bytesOf s)).1, s.extract (rv [] (bytesOf s)).2.1.toNat s.size, 0) else (0, ⟨#[]⟩, (rv [] (bytesOf s)).2.2)) else (0, s, e)
theorem rv_size (s : ByteArray) (h : (rv [] (bytesOf s)).2.2 = 0) : 0 ≤ (rv [] (bytesOf s)).2.1 ∧ (rv [] (bytesOf s)).2.1 ≤ (s.size : Int) := by
  have hl := bytesOf_length s
  rcases rv_facts (bytesOf s) [] (bytesOf_are s) with ⟨_, h2, h3⟩ | h2 | h2
  · simp at h2 h3; omega
  · rw [h2] at h; exact absurd h (by decide)
  · rw [h2] at h; exact absurd h (by decide)
theorem varint_ev (s : ByteArray) (e : Int) (hs : s.size ≤ 281474976710656) : Ev (fun k => codec_Reader_Varint.f k s e) (varP s e) := by
  unfold varP
  by_cases he : e = 0
  · subst he
    rw [if_pos rfl]
    refine evIfPos rfl (Ev.bind (shape_ev s hs) ?_)
    by_cases h : (rv [] (bytesOf s)).2.2 = 0
    · have hz := rv_size s h
      simp only [if_pos h]
      exact evIfPos hz.1 (evIfPos hz.2 (Ev.now _))
    · simp only [if_neg h]
      exact Ev.now _
  · rw [if_neg he]
    exact evIfNeg he (Ev.now _)
theorem rvarint_ev (s : ByteArray) (e : Int) (hs : s.size ≤ 281474976710656) : Ev (fun k => atriumlaw02_reading_varint.f k s e) (varR s e) := by
  unfold varR
  by_cases he : e = 0
  · subst he
    rw [if_pos rfl]
    refine evIfPos rfl (Ev.bind (ref_shape_ev s hs) ?_)
    by_cases h : (rv [] (bytesOf s)).2.2 = 0
    · have hz := rv_size s h
      simp only [if_pos h]
      exact evIfPos hz.1 (evIfPos hz.2 (Ev.now _))
    · simp only [if_neg h]
      exact Ev.now _
  · rw [if_neg he]
    exact evIfNeg he (Ev.now _)
theorem var_agree (s l : ByteArray) (e : Int) (h : Agree s l e) : (varP s e).1 = (varR l e).1 ∧ (varP s e).2.2 = (varR l e).2.2 ∧ Agree (varP s e).2.1 (varR l e).2.1 (varP s e).2.2 := by
  unfold varP varR
  by_cases he : e = 0
  · have := h.1 he
    subst this
    subst he
    simp only [if_true]
    split
    · exact ⟨rfl, rfl, fun _ => rfl, fun h => absurd rfl h⟩
    · rename_i hn
      exact ⟨rfl, rfl, fun h => absurd h hn, fun _ => rfl⟩
  · simp only [if_neg he]
    exact ⟨trivial, trivial, h⟩
end Go.Proofs.Ytjlohahknngmmaa.PureC
/- Texts: what the codec's Reader and the document's reading tell: plain. -/
namespace Go.Proofs.Ytjlohahknngmmaa.PureC
set_option linter.unusedVariables false
open Go Go.RowKit Go.Proofs.Ytjlohahknngmmaa Go.Proofs.Ytjlohahknngmmaa.PC Go.Proofs.YtjlohahknngmmaaW.PrintWords Go.Proofs.YtjlohahknngmmaaW.PrintLast

theorem rv_nonneg (t : List Int) : ∀ p : List Int, 0 ≤ (rv p t).1 := by
  induction t with
  | nil => intro p; exact Int.le_refl _
  | cons c t ih =>
    intro p
    simp only [rv]
    split
    · exact Int.le_refl _
    · split
      · split
        · exact Int.le_refl _
        · exact (lv_range _).1
      · exact ih _
theorem varP_facts (s : ByteArray) (e : Int) : 0 ≤ (varP s e).1 ∧ (varP s e).2.1.size ≤ s.size := by
  unfold varP
  split
  · split
    · refine ⟨rv_nonneg _ _, ?_⟩
      show (s.extract _ s.size).size ≤ s.size
      rw [extract_size]; omega
    · exact ⟨Int.le_refl _, Nat.le_refl _⟩
  · exact ⟨Int.le_refl _, Nat.le_refl _⟩
theorem varR_facts (s : ByteArray) (e : Int) : 0 ≤ (varR s e).1 ∧ (varR s e).2.1.size ≤ s.size := by
  unfold varR
  split
  · split
    · refine ⟨rv_nonneg _ _, ?_⟩
      show (s.extract _ s.size).size ≤ s.size
      rw [extract_size]; omega
    · exact ⟨Int.le_refl _, Nat.zero_le _⟩
  · exact ⟨Int.le_refl _, Nat.le_refl _⟩
def textP (s : ByteArray) (e : Int) : ByteArray × ByteArray × Int :=
  if (varP s e).2.2 = 0 then (if (varP s e).1 > ((varP s e).2.1.size : Int) then (⟨#[]⟩, (varP s e).2.1, 20) else rawP (varP s e).2.1 0 (varP s e).1) else (⟨#[]⟩, (varP s e).2.1, (varP s e).2.2)
def textR (s : ByteArray) (e : Int) : ByteArray × ByteArray × Int :=
  if (varR s e).2.2 = 0 then (if (varR s e).1 > ((varR s e).2.1.size : Int) then (⟨#[]⟩, ⟨#[]⟩, 20) else rawR (varR s e).2.1 0 (varR s e).1) else (⟨#[]⟩, (varR s e).2.1, (varR s e).2.2)
theorem text_ev (s : ByteArray) (e : Int) (hs : s.size ≤ 281474976710656) : Ev (fun k => codec_Reader_Text.f k s e) (textP s e) := by
  have hf := varP_facts s e
  unfold textP
  refine Ev.bind (varint_ev s e hs) ?_
  generalize varP s e = v at *
  obtain ⟨n, s1, e1⟩ := v
  dsimp only at *
  by_cases he : e1 = 0
  · subst he
    simp only [↓reduceIte]
    rw [u64w (x := (s1.size : Int)) (by omega) (by omega)]
    by_cases hn : n > (s1.size : Int)
    · simp only [if_pos hn]
      exact Ev.now _
    · simp only [if_neg hn]
      rw [wrap64_id (by omega) (by omega)]
      exact evBindc (raw_eq s1 0 n) (Ev.now _)
  · simp only [if_neg he]
    exact Ev.now _
theorem rtext_ev (s : ByteArray) (e : Int) (hs : s.size ≤ 281474976710656) : Ev (fun k => atriumlaw02_reading_text.f k s e) (textR s e) := by
  have hf := varR_facts s e
  unfold textR
  refine Ev.bind (rvarint_ev s e hs) ?_
  generalize varR s e = v at *
  obtain ⟨n, s1, e1⟩ := v
  dsimp only at *
  by_cases he : e1 = 0
  · subst he
    rw [if_pos rfl]
    refine evIfPos rfl ?_
    rw [u64w (x := (s1.size : Int)) (by omega) (by omega)]
    by_cases hn : n > (s1.size : Int)
    · simp only [if_pos hn, decide_eq_true hn]
      exact Ev.step (fun k => by simp only [atriumlaw02_reading_text.j0]; exact rfl) (evIfPos (show true = true from rfl) (Ev.now _))
    · simp only [if_neg hn, decide_eq_false hn]
      refine Ev.step (fun k => by simp only [atriumlaw02_reading_text.j0]; exact rfl) (evIfNeg (show ¬ (false = true) by decide) ?_)
      rw [wrap64_id (by omega) (by omega)]
      exact evBindc (rraw_eq s1 0 n) (Ev.now _)
  · rw [if_neg he]
    refine evIfNeg he (Ev.step (fun k => by simp only [atriumlaw02_reading_text.j0]; exact rfl) (evIfNeg (show ¬ (false = true) by decide) (evBindc (rraw_eq s1 e1 _) ?_)))
    rw [show rawR s1 e1 (wrap64 n) = (⟨#[]⟩, s1, e1) by unfold rawR; rw [if_neg he]]
    exact Ev.now _
theorem text_agree (s l : ByteArray) (e : Int) (h : Agree s l e) : (textP s e).1 = (textR l e).1 ∧ (textP s e).2.2 = (textR l e).2.2 ∧ Agree (textP s e).2.1 (textR l e).2.1 (textP s e).2.2 := by
  obtain ⟨h1, h2, h3⟩ := var_agree s l e h
  unfold textP textR
  generalize varP s e = v at *
  generalize varR l e = u at *
  obtain ⟨n, s1, e1⟩ := v
  obtain ⟨m, l1, d1⟩ := u
  dsimp only at *
  subst h1 h2
  by_cases he : e1 = 0
  · have := h3.1 he
    subst this
    subst he
    simp only [if_true]
    split
    · exact ⟨rfl, rfl, fun h => absurd h (show ¬ (20 : Int) = 0 by decide), fun _ => rfl⟩
    · exact raw_agree s1 s1 0 n ⟨fun _ => rfl, fun h => absurd rfl h⟩
  · simp only [if_neg he]
    exact ⟨trivial, trivial, h3⟩
end Go.Proofs.Ytjlohahknngmmaa.PureC
/- Walk: step, one read of a Reader and of the reading beside it. Printed by cdstep.py. -/
namespace Go.Proofs.Ytjlohahknngmmaa
open Go Go.RowKit Go.Proofs.YtjlohahknngmmaaW.PrintWords Go.Proofs.YtjlohahknngmmaaW.PrintMore Go.Proofs.YtjlohahknngmmaaW.PrintLast Go.Proofs.Ytjlohahknngmmaa.PC Go.Proofs.Ytjlohahknngmmaa.PureC
set_option linter.unusedVariables false
set_option linter.unusedSimpArgs false

theorem rd_keep {w0 W W1 : World} {g g' : Nat} {s : ByteArray} {e : Int} (h : IsS72 w0 W g s e) (hk : KeepBut W W1 g' none) (hne : g ≠ g') : IsS72 w0 W1 g s e := ⟨hk.blk h.1 hne (by simp), h.2⟩
theorem rx_keep {w0 W W1 : World} {g g' : Nat} {s : ByteArray} {e : Int} (h : IsS39 w0 W g s e) (hk : KeepBut W W1 g' none) (hne : g ≠ g') : IsS39 w0 W1 g s e := ⟨hk.blk h.1 hne (by simp), h.2⟩

theorem pow256_le {m n : Nat} (h : m ≤ n) (hn : n ≤ 8) : (256 : Int) ^ m ≤ 256 ^ n := by
  have h' : ((List.range 9).all fun n => (List.range 9).all fun m => decide (m ≤ n → (256 : Int) ^ m ≤ 256 ^ n)) = true := by decide +kernel
  exact of_decide_eq_true (List.all_eq_true.1 (List.all_eq_true.1 h' n (List.mem_range.2 (by omega))) m (List.mem_range.2 (by omega))) h
theorem rawP_one (s : ByteArray) (e : Int) (n : Nat) (hn : n ≤ 8) : 0 ≤ beN (bytesOf (rawP s e n).1) ∧ beN (bytesOf (rawP s e n).1) < 256 ^ n := by
  have h1 := be_range _ (bytesOf_are (rawP s e n).1)
  have h2 := (raw_size s e n).1
  rw [bytesOf_length] at h1
  refine ⟨h1.1, Int.lt_of_lt_of_le h1.2 ?_⟩
  exact pow256_le h2 hn

theorem rawR_size0 (s : ByteArray) (e n : Int) : (rawR s e n).2.1.size ≤ s.size := by
  unfold rawR
  split
  · split
    · exact Nat.zero_le _
    · split
      · exact Nat.zero_le _
      · simp only [ByteArray.size_extract]; omega
  · exact Nat.le_refl _
theorem rawP_size0 (s : ByteArray) (e n : Int) : (rawP s e n).2.1.size ≤ s.size := by
  unfold rawP
  split
  · split
    · exact Nat.le_refl _
    · split
      · exact Nat.le_refl _
      · simp only [ByteArray.size_extract]; omega
  · exact Nat.le_refl _
theorem varP_size (s : ByteArray) (e : Int) : (varP s e).2.1.size ≤ s.size := (varP_facts s e).2
theorem varR_size (s : ByteArray) (e : Int) : (varR s e).2.1.size ≤ s.size := (varR_facts s e).2
theorem textP_size (s : ByteArray) (e : Int) : (textP s e).2.1.size ≤ s.size := by
  have h := varP_size s e
  unfold textP
  split
  · split
    · exact h
    · exact Nat.le_trans (rawP_size0 _ _ _) h
  · exact h
theorem textR_size (s : ByteArray) (e : Int) : (textR s e).2.1.size ≤ s.size := by
  have h := varR_size s e
  unfold textR
  split
  · split
    · exact Nat.zero_le _
    · exact Nat.le_trans (rawR_size0 _ _ _) h
  · exact h
/-- What step leaves. -/
def Steps (w0 : World) (g1 g2 : Nat) (w' : World) : Prop :=
  ∃ s' l' e', IsS72 w0 w' g1 s' e' ∧ IsS39 w0 w' g2 l' e' ∧ Agree s' l' e' ∧ s'.size ≤ 281474976710656 ∧ l'.size ≤ 281474976710656 ∧ Below w0.heap.size w0 w'
theorem rawR_size (s : ByteArray) (e n : Int) : (rawR s e n).2.1.size ≤ s.size := by
  unfold rawR
  split
  · split
    · exact Nat.zero_le _
    · split
      · exact Nat.zero_le _
      · simp only [ByteArray.size_extract]; omega
  · exact Nat.le_refl _
theorem rawP_size (s : ByteArray) (e n : Int) : (rawP s e n).2.1.size ≤ s.size := by
  unfold rawP
  split
  · split
    · exact Nat.le_refl _
    · split
      · exact Nat.le_refl _
      · simp only [ByteArray.size_extract]; omega
  · exact Nat.le_refl _
theorem u8_eq (s : ByteArray) (e : Int) : codec_Reader_U8.f s e = some (beN (bytesOf (rawP s e 1).1), (rawP s e 1).2.1, (rawP s e 1).2.2) := by
  have h := rawP_one s e 1 (by decide)
  have h2 := read_eq s e 1 (by decide)
  rw [show ((256 : Int) ^ 1) = 256 from rfl] at h
  unfold codec_Reader_U8.f
  rw [show ((1 : Nat) : Int) = 1 from rfl] at h h2
  rw [h2, Option.bind_some]
  simp only [Option.some.injEq, Prod.mk.injEq, and_true]
  omega

theorem u16_eq (s : ByteArray) (e : Int) : codec_Reader_U16.f s e = some (beN (bytesOf (rawP s e 2).1), (rawP s e 2).2.1, (rawP s e 2).2.2) := by
  have h := rawP_one s e 2 (by decide)
  have h2 := read_eq s e 2 (by decide)
  rw [show ((256 : Int) ^ 2) = 65536 from rfl] at h
  unfold codec_Reader_U16.f
  rw [show ((2 : Nat) : Int) = 2 from rfl] at h h2
  rw [h2, Option.bind_some]
  simp only [Option.some.injEq, Prod.mk.injEq, and_true]
  show _ % 65536 = _
  omega

theorem u32_eq (s : ByteArray) (e : Int) : codec_Reader_U32.f s e = some (beN (bytesOf (rawP s e 4).1), (rawP s e 4).2.1, (rawP s e 4).2.2) := by
  have h := rawP_one s e 4 (by decide)
  have h2 := read_eq s e 4 (by decide)
  rw [show ((256 : Int) ^ 4) = 4294967296 from rfl] at h
  unfold codec_Reader_U32.f
  rw [show ((4 : Nat) : Int) = 4 from rfl] at h h2
  rw [h2, Option.bind_some]
  simp only [Option.some.injEq, Prod.mk.injEq, and_true]
  omega

theorem u64_eq (s : ByteArray) (e : Int) : codec_Reader_U64.f s e = some (beN (bytesOf (rawP s e 8).1), (rawP s e 8).2.1, (rawP s e 8).2.2) := by
  have h := rawP_one s e 8 (by decide)
  have h2 := read_eq s e 8 (by decide)
  rw [show ((256 : Int) ^ 8) = 18446744073709551616 from rfl] at h
  unfold codec_Reader_U64.f
  rw [show ((8 : Nat) : Int) = 8 from rfl] at h h2
  rw [h2, Option.bind_some]

set_option maxHeartbeats 2000000 in
theorem step_u8 (w0 : World) (g1 g2 : Nat) (s l : ByteArray) (e n : Int) (t : ByteArray) (w : World) (hI : IsS72 w0 w g1 s e) (hX : IsS39 w0 w g2 l e) (hA : Agree s l e) (hs : s.size ≤ 281474976710656) (hl : l.size ≤ 281474976710656) (hB : Below w0.heap.size w0 w) :
    Calls Try.prog 19 #[.pointer (some ⟨g1, 0, none⟩), .pointer (some ⟨g2, 0, none⟩), .agg #[.int .i64 0, .int .u64 n, .string t]] w fun r w' => r = .returned (.bool true) ∧ Steps w0 g1 g2 w' := by
  have hu := Try.underlying41
  have Hne := Aside0.mk (show g1 ≠ g2 from IsS72.ne_blk hI hX.1 (by decide))
  have HI := Aside0.mk (IsS72.alloc hI (.cells #[.int .i64 0, .int .u64 n, .string t] 41))
  have HX := Aside0.mk (IsS39.alloc hX (.cells #[.int .i64 0, .int .u64 n, .string t] 41))
  have HB := Aside0.mk (below_alloc hB (.cells #[.int .i64 0, .int .u64 n, .string t] 41))
  have Hlt1 := Aside0.mk (blk_lt hI.1)
  have Hlt2 := Aside0.mk (blk_lt hX.1)
  clear hI hX hB
  have Hu := Aside0.mk (u8_eq s e)
  have Hx := Aside0.mk (rraw_eq l e 1)
  obtain ⟨a1, a2, a3⟩ := raw_agree s l e 1 hA
  have hv := rawP_one s e 1 (by decide)
  rw [show ((256 : Int) ^ 1) = 256 from rfl] at hv
  have z1 := rawP_size s e 1
  have z2 := rawR_size l e 1
  have z3 := (raw_size s e 1).1
  rw [show ((1 : Nat) : Int) = 1 from rfl] at hv z3
  rw [a1] at hv z3 Hu
  obtain ⟨k, hk⟩ := (ref_read (rawR l e 1).1 (by omega)).rounds
  have Hk := Aside0.mk hk
  have HA := Aside0.mk a3
  have Ha2 := Aside0.mk a2
  clear hk a1 a2 a3 hA
  generalize beN (bytesOf (rawR l e 1).1) = v at *
  generalize rawP s e 1 = P at *
  obtain ⟨p1, p2, p3⟩ := P
  generalize rawR l e 1 = R at *
  obtain ⟨r1, r2, r3⟩ := R
  have hE := Ha2.out
  dsimp only at hE z1 z2 Hu Hx HA
  subst hE
  clear Ha2
  have hv1 := hv.1
  have hv2 := hv.2
  have hw : IntKind.u64.wrap v = v := u64w (by omega) (by omega)
  clear hv
  go_enter Try.func19, Try.ntmps19
  go_wp2_with (go_at_call 23; refine (codec_Reader_U8.calls g1 s e v p2 p3 w0 _ HI.out HB.out Hu.out).mono ?_)
  intro e1 w1
  first | intro he hI hB hK | rintro ⟨he, hI, hB, hK⟩
  subst he
  have HI := Aside0.mk hI
  have HX := Aside0.mk (rx_keep HX.out hK (fun h => Hne.out h.symm))
  have HB := Aside0.mk hB
  clear hI hB hK
  go_wp2_with (go_at_call 42; refine (atriumlaw02_reading_raw.calls g2 l e 1 r1 r2 p3 w0 _ HX.out HB.out Hx.out).mono ?_)
  intro e2 w2
  first | intro he hX hB hK | rintro ⟨he, hX, hB, hK⟩
  subst he
  have HX := Aside0.mk hX
  have HI := Aside0.mk (rd_keep HI.out hK Hne.out)
  have HB := Aside0.mk hB
  clear hX hB hK
  go_wp2_with (go_at_call 41; refine (atriumref02_Read.calls k r1 v _ Hk.out).mono ?_)
  intro e3 w3
  first | intro he hq | rintro ⟨he, hq⟩
  subst he
  obtain ⟨q, rfl⟩ := hq
  go_wp2
  go_ret
  exact ⟨rfl, p2, r2, p3, HI.out.drewN q, HX.out.drewN q, HA.out, by omega, by omega, pw_below_drewN HB.out q⟩
set_option maxHeartbeats 2000000 in
theorem step_u16 (w0 : World) (g1 g2 : Nat) (s l : ByteArray) (e n : Int) (t : ByteArray) (w : World) (hI : IsS72 w0 w g1 s e) (hX : IsS39 w0 w g2 l e) (hA : Agree s l e) (hs : s.size ≤ 281474976710656) (hl : l.size ≤ 281474976710656) (hB : Below w0.heap.size w0 w) :
    Calls Try.prog 19 #[.pointer (some ⟨g1, 0, none⟩), .pointer (some ⟨g2, 0, none⟩), .agg #[.int .i64 1, .int .u64 n, .string t]] w fun r w' => r = .returned (.bool true) ∧ Steps w0 g1 g2 w' := by
  have hu := Try.underlying41
  have Hne := Aside0.mk (show g1 ≠ g2 from IsS72.ne_blk hI hX.1 (by decide))
  have HI := Aside0.mk (IsS72.alloc hI (.cells #[.int .i64 1, .int .u64 n, .string t] 41))
  have HX := Aside0.mk (IsS39.alloc hX (.cells #[.int .i64 1, .int .u64 n, .string t] 41))
  have HB := Aside0.mk (below_alloc hB (.cells #[.int .i64 1, .int .u64 n, .string t] 41))
  have Hlt1 := Aside0.mk (blk_lt hI.1)
  have Hlt2 := Aside0.mk (blk_lt hX.1)
  clear hI hX hB
  have Hu := Aside0.mk (u16_eq s e)
  have Hx := Aside0.mk (rraw_eq l e 2)
  obtain ⟨a1, a2, a3⟩ := raw_agree s l e 2 hA
  have hv := rawP_one s e 2 (by decide)
  rw [show ((256 : Int) ^ 2) = 65536 from rfl] at hv
  have z1 := rawP_size s e 2
  have z2 := rawR_size l e 2
  have z3 := (raw_size s e 2).1
  rw [show ((2 : Nat) : Int) = 2 from rfl] at hv z3
  rw [a1] at hv z3 Hu
  obtain ⟨k, hk⟩ := (ref_read (rawR l e 2).1 (by omega)).rounds
  have Hk := Aside0.mk hk
  have HA := Aside0.mk a3
  have Ha2 := Aside0.mk a2
  clear hk a1 a2 a3 hA
  generalize beN (bytesOf (rawR l e 2).1) = v at *
  generalize rawP s e 2 = P at *
  obtain ⟨p1, p2, p3⟩ := P
  generalize rawR l e 2 = R at *
  obtain ⟨r1, r2, r3⟩ := R
  have hE := Ha2.out
  dsimp only at hE z1 z2 Hu Hx HA
  subst hE
  clear Ha2
  have hv1 := hv.1
  have hv2 := hv.2
  have hw : IntKind.u64.wrap v = v := u64w (by omega) (by omega)
  clear hv
  go_enter Try.func19, Try.ntmps19
  go_wp2_with (go_at_call 24; refine (codec_Reader_U16.calls g1 s e v p2 p3 w0 _ HI.out HB.out Hu.out).mono ?_)
  intro e1 w1
  first | intro he hI hB hK | rintro ⟨he, hI, hB, hK⟩
  subst he
  have HI := Aside0.mk hI
  have HX := Aside0.mk (rx_keep HX.out hK (fun h => Hne.out h.symm))
  have HB := Aside0.mk hB
  clear hI hB hK
  go_wp2_with (go_at_call 42; refine (atriumlaw02_reading_raw.calls g2 l e 2 r1 r2 p3 w0 _ HX.out HB.out Hx.out).mono ?_)
  intro e2 w2
  first | intro he hX hB hK | rintro ⟨he, hX, hB, hK⟩
  subst he
  have HX := Aside0.mk hX
  have HI := Aside0.mk (rd_keep HI.out hK Hne.out)
  have HB := Aside0.mk hB
  clear hX hB hK
  go_wp2_with (go_at_call 41; refine (atriumref02_Read.calls k r1 v _ Hk.out).mono ?_)
  intro e3 w3
  first | intro he hq | rintro ⟨he, hq⟩
  subst he
  obtain ⟨q, rfl⟩ := hq
  go_wp2
  go_ret
  exact ⟨rfl, p2, r2, p3, HI.out.drewN q, HX.out.drewN q, HA.out, by omega, by omega, pw_below_drewN HB.out q⟩
set_option maxHeartbeats 2000000 in
theorem step_u32 (w0 : World) (g1 g2 : Nat) (s l : ByteArray) (e n : Int) (t : ByteArray) (w : World) (hI : IsS72 w0 w g1 s e) (hX : IsS39 w0 w g2 l e) (hA : Agree s l e) (hs : s.size ≤ 281474976710656) (hl : l.size ≤ 281474976710656) (hB : Below w0.heap.size w0 w) :
    Calls Try.prog 19 #[.pointer (some ⟨g1, 0, none⟩), .pointer (some ⟨g2, 0, none⟩), .agg #[.int .i64 2, .int .u64 n, .string t]] w fun r w' => r = .returned (.bool true) ∧ Steps w0 g1 g2 w' := by
  have hu := Try.underlying41
  have Hne := Aside0.mk (show g1 ≠ g2 from IsS72.ne_blk hI hX.1 (by decide))
  have HI := Aside0.mk (IsS72.alloc hI (.cells #[.int .i64 2, .int .u64 n, .string t] 41))
  have HX := Aside0.mk (IsS39.alloc hX (.cells #[.int .i64 2, .int .u64 n, .string t] 41))
  have HB := Aside0.mk (below_alloc hB (.cells #[.int .i64 2, .int .u64 n, .string t] 41))
  have Hlt1 := Aside0.mk (blk_lt hI.1)
  have Hlt2 := Aside0.mk (blk_lt hX.1)
  clear hI hX hB
  have Hu := Aside0.mk (u32_eq s e)
  have Hx := Aside0.mk (rraw_eq l e 4)
  obtain ⟨a1, a2, a3⟩ := raw_agree s l e 4 hA
  have hv := rawP_one s e 4 (by decide)
  rw [show ((256 : Int) ^ 4) = 4294967296 from rfl] at hv
  have z1 := rawP_size s e 4
  have z2 := rawR_size l e 4
  have z3 := (raw_size s e 4).1
  rw [show ((4 : Nat) : Int) = 4 from rfl] at hv z3
  rw [a1] at hv z3 Hu
  obtain ⟨k, hk⟩ := (ref_read (rawR l e 4).1 (by omega)).rounds
  have Hk := Aside0.mk hk
  have HA := Aside0.mk a3
  have Ha2 := Aside0.mk a2
  clear hk a1 a2 a3 hA
  generalize beN (bytesOf (rawR l e 4).1) = v at *
  generalize rawP s e 4 = P at *
  obtain ⟨p1, p2, p3⟩ := P
  generalize rawR l e 4 = R at *
  obtain ⟨r1, r2, r3⟩ := R
  have hE := Ha2.out
  dsimp only at hE z1 z2 Hu Hx HA
  subst hE
  clear Ha2
  have hv1 := hv.1
  have hv2 := hv.2
  have hw : IntKind.u64.wrap v = v := u64w (by omega) (by omega)
  clear hv
  go_enter Try.func19, Try.ntmps19
  go_wp2_with (go_at_call 25; refine (codec_Reader_U32.calls g1 s e v p2 p3 w0 _ HI.out HB.out Hu.out).mono ?_)
  intro e1 w1
  first | intro he hI hB hK | rintro ⟨he, hI, hB, hK⟩
  subst he
  have HI := Aside0.mk hI
  have HX := Aside0.mk (rx_keep HX.out hK (fun h => Hne.out h.symm))
  have HB := Aside0.mk hB
  clear hI hB hK
  go_wp2_with (go_at_call 42; refine (atriumlaw02_reading_raw.calls g2 l e 4 r1 r2 p3 w0 _ HX.out HB.out Hx.out).mono ?_)
  intro e2 w2
  first | intro he hX hB hK | rintro ⟨he, hX, hB, hK⟩
  subst he
  have HX := Aside0.mk hX
  have HI := Aside0.mk (rd_keep HI.out hK Hne.out)
  have HB := Aside0.mk hB
  clear hX hB hK
  go_wp2_with (go_at_call 41; refine (atriumref02_Read.calls k r1 v _ Hk.out).mono ?_)
  intro e3 w3
  first | intro he hq | rintro ⟨he, hq⟩
  subst he
  obtain ⟨q, rfl⟩ := hq
  go_wp2
  go_ret
  exact ⟨rfl, p2, r2, p3, HI.out.drewN q, HX.out.drewN q, HA.out, by omega, by omega, pw_below_drewN HB.out q⟩
set_option maxHeartbeats 2000000 in
theorem step_u64 (w0 : World) (g1 g2 : Nat) (s l : ByteArray) (e n : Int) (t : ByteArray) (w : World) (hI : IsS72 w0 w g1 s e) (hX : IsS39 w0 w g2 l e) (hA : Agree s l e) (hs : s.size ≤ 281474976710656) (hl : l.size ≤ 281474976710656) (hB : Below w0.heap.size w0 w) :
    Calls Try.prog 19 #[.pointer (some ⟨g1, 0, none⟩), .pointer (some ⟨g2, 0, none⟩), .agg #[.int .i64 3, .int .u64 n, .string t]] w fun r w' => r = .returned (.bool true) ∧ Steps w0 g1 g2 w' := by
  have hu := Try.underlying41
  have Hne := Aside0.mk (show g1 ≠ g2 from IsS72.ne_blk hI hX.1 (by decide))
  have HI := Aside0.mk (IsS72.alloc hI (.cells #[.int .i64 3, .int .u64 n, .string t] 41))
  have HX := Aside0.mk (IsS39.alloc hX (.cells #[.int .i64 3, .int .u64 n, .string t] 41))
  have HB := Aside0.mk (below_alloc hB (.cells #[.int .i64 3, .int .u64 n, .string t] 41))
  have Hlt1 := Aside0.mk (blk_lt hI.1)
  have Hlt2 := Aside0.mk (blk_lt hX.1)
  clear hI hX hB
  have Hu := Aside0.mk (u64_eq s e)
  have Hx := Aside0.mk (rraw_eq l e 8)
  obtain ⟨a1, a2, a3⟩ := raw_agree s l e 8 hA
  have hv := rawP_one s e 8 (by decide)
  rw [show ((256 : Int) ^ 8) = 18446744073709551616 from rfl] at hv
  have z1 := rawP_size s e 8
  have z2 := rawR_size l e 8
  have z3 := (raw_size s e 8).1
  rw [show ((8 : Nat) : Int) = 8 from rfl] at hv z3
  rw [a1] at hv z3 Hu
  obtain ⟨k, hk⟩ := (ref_read (rawR l e 8).1 (by omega)).rounds
  have Hk := Aside0.mk hk
  have HA := Aside0.mk a3
  have Ha2 := Aside0.mk a2
  clear hk a1 a2 a3 hA
  generalize beN (bytesOf (rawR l e 8).1) = v at *
  generalize rawP s e 8 = P at *
  obtain ⟨p1, p2, p3⟩ := P
  generalize rawR l e 8 = R at *
  obtain ⟨r1, r2, r3⟩ := R
  have hE := Ha2.out
  dsimp only at hE z1 z2 Hu Hx HA
  subst hE
  clear Ha2
  have hv1 := hv.1
  have hv2 := hv.2
  have hw : IntKind.u64.wrap v = v := u64w (by omega) (by omega)
  clear hv
  go_enter Try.func19, Try.ntmps19
  go_wp2_with (go_at_call 26; refine (codec_Reader_U64.calls g1 s e v p2 p3 w0 _ HI.out HB.out Hu.out).mono ?_)
  intro e1 w1
  first | intro he hI hB hK | rintro ⟨he, hI, hB, hK⟩
  subst he
  have HI := Aside0.mk hI
  have HX := Aside0.mk (rx_keep HX.out hK (fun h => Hne.out h.symm))
  have HB := Aside0.mk hB
  clear hI hB hK
  go_wp2_with (go_at_call 42; refine (atriumlaw02_reading_raw.calls g2 l e 8 r1 r2 p3 w0 _ HX.out HB.out Hx.out).mono ?_)
  intro e2 w2
  first | intro he hX hB hK | rintro ⟨he, hX, hB, hK⟩
  subst he
  have HX := Aside0.mk hX
  have HI := Aside0.mk (rd_keep HI.out hK Hne.out)
  have HB := Aside0.mk hB
  clear hX hB hK
  go_wp2_with (go_at_call 41; refine (atriumref02_Read.calls k r1 v _ Hk.out).mono ?_)
  intro e3 w3
  first | intro he hq | rintro ⟨he, hq⟩
  subst he
  obtain ⟨q, rfl⟩ := hq
  go_wp2
  go_ret
  exact ⟨rfl, p2, r2, p3, HI.out.drewN q, HX.out.drewN q, HA.out, by omega, by omega, pw_below_drewN HB.out q⟩
set_option maxHeartbeats 2000000 in
theorem step_varint (w0 : World) (g1 g2 : Nat) (s l : ByteArray) (e n : Int) (t : ByteArray) (w : World) (hI : IsS72 w0 w g1 s e) (hX : IsS39 w0 w g2 l e) (hA : Agree s l e) (hs : s.size ≤ 281474976710656) (hl : l.size ≤ 281474976710656) (hB : Below w0.heap.size w0 w) :
    Calls Try.prog 19 #[.pointer (some ⟨g1, 0, none⟩), .pointer (some ⟨g2, 0, none⟩), .agg #[.int .i64 4, .int .u64 n, .string t]] w fun r w' => r = .returned (.bool true) ∧ Steps w0 g1 g2 w' := by
  have hu := Try.underlying41
  have Hne := Aside0.mk (show g1 ≠ g2 from IsS72.ne_blk hI hX.1 (by decide))
  have HI := Aside0.mk (IsS72.alloc hI (.cells #[.int .i64 4, .int .u64 n, .string t] 41))
  have HX := Aside0.mk (IsS39.alloc hX (.cells #[.int .i64 4, .int .u64 n, .string t] 41))
  have HB := Aside0.mk (below_alloc hB (.cells #[.int .i64 4, .int .u64 n, .string t] 41))
  have Hlt1 := Aside0.mk (blk_lt hI.1)
  have Hlt2 := Aside0.mk (blk_lt hX.1)
  clear hI hX hB
  obtain ⟨k1, hk1⟩ := ((varint_ev s e hs) : Ev _ _).rounds
  obtain ⟨k2, hk2⟩ := ((rvarint_ev l e hl) : Ev _ _).rounds
  obtain ⟨a1, a2, a3⟩ := var_agree s l e hA
  have z1 := (varP_size s e)
  have z2 := (varR_size l e)
  have Hu := Aside0.mk hk1
  have Hx := Aside0.mk hk2
  have HA := Aside0.mk a3
  have Ha1 := Aside0.mk a1
  have Ha2 := Aside0.mk a2
  clear hk1 hk2 a1 a2 a3 hA
  generalize varP s e = P at *
  obtain ⟨p1, p2, p3⟩ := P
  generalize varR l e = R at *
  obtain ⟨r1, r2, r3⟩ := R
  have hE := Ha2.out
  have hE1 := Ha1.out
  dsimp only at hE hE1 z1 z2 Hu Hx HA
  subst hE hE1
  clear Ha1 Ha2
  go_enter Try.func19, Try.ntmps19
  go_wp2_with (go_at_call 16; refine (codec_Reader_Varint.calls k1 g1 s e p1 p2 p3 w0 _ HI.out HB.out Hu.out).mono ?_)
  intro e1 w1
  first | intro he hI hB hK | rintro ⟨he, hI, hB, hK⟩
  subst he
  have HI := Aside0.mk hI
  have HX := Aside0.mk (rx_keep HX.out hK (fun h => Hne.out h.symm))
  have HB := Aside0.mk hB
  clear hI hB hK
  go_wp2_with (go_at_call 43; refine (atriumlaw02_reading_varint.calls k2 g2 l e p1 r2 p3 w0 _ HX.out HB.out Hx.out).mono ?_)
  intro e2 w2
  first | intro he hX hB hK | rintro ⟨he, hX, hB, hK⟩
  subst he
  have HX := Aside0.mk hX
  have HI := Aside0.mk (rd_keep HI.out hK Hne.out)
  have HB := Aside0.mk hB
  clear hX hB hK
  go_wp2
  go_ret
  exact ⟨by simp, p2, r2, p3, HI.out, HX.out, HA.out, by omega, by omega, HB.out⟩
set_option maxHeartbeats 2000000 in
theorem step_text (w0 : World) (g1 g2 : Nat) (s l : ByteArray) (e n : Int) (t : ByteArray) (w : World) (hI : IsS72 w0 w g1 s e) (hX : IsS39 w0 w g2 l e) (hA : Agree s l e) (hs : s.size ≤ 281474976710656) (hl : l.size ≤ 281474976710656) (hB : Below w0.heap.size w0 w) :
    Calls Try.prog 19 #[.pointer (some ⟨g1, 0, none⟩), .pointer (some ⟨g2, 0, none⟩), .agg #[.int .i64 5, .int .u64 n, .string t]] w fun r w' => r = .returned (.bool true) ∧ Steps w0 g1 g2 w' := by
  have hu := Try.underlying41
  have Hne := Aside0.mk (show g1 ≠ g2 from IsS72.ne_blk hI hX.1 (by decide))
  have HI := Aside0.mk (IsS72.alloc hI (.cells #[.int .i64 5, .int .u64 n, .string t] 41))
  have HX := Aside0.mk (IsS39.alloc hX (.cells #[.int .i64 5, .int .u64 n, .string t] 41))
  have HB := Aside0.mk (below_alloc hB (.cells #[.int .i64 5, .int .u64 n, .string t] 41))
  have Hlt1 := Aside0.mk (blk_lt hI.1)
  have Hlt2 := Aside0.mk (blk_lt hX.1)
  clear hI hX hB
  obtain ⟨k1, hk1⟩ := ((text_ev s e hs) : Ev _ _).rounds
  obtain ⟨k2, hk2⟩ := ((rtext_ev l e hl) : Ev _ _).rounds
  obtain ⟨a1, a2, a3⟩ := text_agree s l e hA
  have z1 := (textP_size s e)
  have z2 := (textR_size l e)
  have Hu := Aside0.mk hk1
  have Hx := Aside0.mk hk2
  have HA := Aside0.mk a3
  have Ha1 := Aside0.mk a1
  have Ha2 := Aside0.mk a2
  clear hk1 hk2 a1 a2 a3 hA
  generalize textP s e = P at *
  obtain ⟨p1, p2, p3⟩ := P
  generalize textR l e = R at *
  obtain ⟨r1, r2, r3⟩ := R
  have hE := Ha2.out
  have hE1 := Ha1.out
  dsimp only at hE hE1 z1 z2 Hu Hx HA
  subst hE hE1
  clear Ha1 Ha2
  go_enter Try.func19, Try.ntmps19
  go_wp2_with (go_at_call 27; refine (codec_Reader_Text.calls k1 g1 s e p1 p2 p3 w0 _ HI.out HB.out Hu.out).mono ?_)
  intro e1 w1
  first | intro he hI hB hK | rintro ⟨he, hI, hB, hK⟩
  subst he
  have HI := Aside0.mk hI
  have HX := Aside0.mk (rx_keep HX.out hK (fun h => Hne.out h.symm))
  have HB := Aside0.mk hB
  clear hI hB hK
  go_wp2_with (go_at_call 44; refine (atriumlaw02_reading_text.calls k2 g2 l e p1 r2 p3 w0 _ HX.out HB.out Hx.out).mono ?_)
  intro e2 w2
  first | intro he hX hB hK | rintro ⟨he, hX, hB, hK⟩
  subst he
  have HX := Aside0.mk hX
  have HI := Aside0.mk (rd_keep HI.out hK Hne.out)
  have HB := Aside0.mk hB
  clear hX hB hK
  go_wp2
  go_ret
  exact ⟨by simp, p2, r2, p3, HI.out, HX.out, HA.out, by omega, by omega, HB.out⟩
end Go.Proofs.Ytjlohahknngmmaa
/- Walk: step, kind 6 (a read of so many bytes). -/
namespace Go.Proofs.Ytjlohahknngmmaa
open Go Go.RowKit Go.Proofs.YtjlohahknngmmaaW.PrintWords Go.Proofs.YtjlohahknngmmaaW.PrintMore Go.Proofs.YtjlohahknngmmaaW.PrintLast Go.Proofs.Ytjlohahknngmmaa.PC Go.Proofs.Ytjlohahknngmmaa.PureC
set_option linter.unusedVariables false
set_option linter.unusedSimpArgs false
attribute [local go_sem ↓] Go.wp_at_zero Go.wp_at_succ

/-- A Reader, the reading beside it, and a block that stays. -/
def RS (w0 : World) (g1 g2 gc : Nat) (cs : Array Value) (s : ByteArray) (e : Int) (l : ByteArray) (e' : Int) (w : World) : Prop :=
  IsS72 w0 w g1 s e ∧ IsS39 w0 w g2 l e' ∧ w.heap[gc]? = some (.cells cs 41 (0, 0)) ∧ Below w0.heap.size w0 w

theorem RS.drew {w0 : World} {g1 g2 gc : Nat} {cs : Array Value} {s : ByteArray} {e : Int} {l : ByteArray} {e' : Int} {w : World} (h : RS w0 g1 g2 gc cs s e l e' w) : RS w0 g1 g2 gc cs s e l e' w.drew := ⟨h.1.drew, h.2.1.drew, h.2.2.1, below_drew1 h.2.2.2⟩
theorem RS.drewN {w0 : World} {g1 g2 gc : Nat} {cs : Array Value} {s : ByteArray} {e : Int} {l : ByteArray} {e' : Int} {w : World} (h : RS w0 g1 g2 gc cs s e l e' w) (n : Nat) : RS w0 g1 g2 gc cs s e l e' (w.drewN n) := ⟨h.1.drewN n, h.2.1.drewN n, h.2.2.1, pw_below_drewN h.2.2.2 n⟩

theorem RS.cell {w0 : World} {g1 g2 gc : Nat} {cs : Array Value} {s : ByteArray} {e : Int} {l : ByteArray} {e' : Int} {w : World} (h : RS w0 g1 g2 gc cs s e l e' w) (i : Nat) {v : Value} (hv : cs[i]? = some v) : w.cell? ⟨gc, i, none⟩ = some v := (blk_cell h.2.2.1 i).trans hv
theorem RS.l {w0 : World} {g1 g2 gc : Nat} {cs : Array Value} {s : ByteArray} {e : Int} {l : ByteArray} {e' : Int} {w : World} (h : RS w0 g1 g2 gc cs s e l e' w) {w1 : World} {s' : ByteArray} {e1 : Int} (h1 : IsS72 w0 w1 g1 s' e1) (hk : KeepBut w w1 g1 none) (hb : Below w0.heap.size w0 w1) : RS w0 g1 g2 gc cs s' e1 l e' w1 := by
  have n1 : g2 ≠ g1 := fun h9 => (IsS72.ne_blk h.1 h.2.1.1 (by decide)) h9.symm
  have n2 : gc ≠ g1 := fun h9 => (IsS72.ne_blk h.1 h.2.2.1 (by decide)) h9.symm
  exact ⟨h1, rx_keep h.2.1 hk n1, hk.blk h.2.2.1 n2 (by simp), hb⟩
theorem RS.r {w0 : World} {g1 g2 gc : Nat} {cs : Array Value} {s : ByteArray} {e : Int} {l : ByteArray} {e' : Int} {w : World} (h : RS w0 g1 g2 gc cs s e l e' w) {w1 : World} {l' : ByteArray} {e1 : Int} (h1 : IsS39 w0 w1 g2 l' e1) (hk : KeepBut w w1 g2 none) (hb : Below w0.heap.size w0 w1) : RS w0 g1 g2 gc cs s e l' e1 w1 := by
  have n1 : g1 ≠ g2 := IsS72.ne_blk h.1 h.2.1.1 (by decide)
  have n2 : gc ≠ g2 := fun h9 => (IsS39.ne_blk h.2.1 h.2.2.1 (by decide)) h9.symm
  exact ⟨rd_keep h.1 hk n1, h1, hk.blk h.2.2.1 n2 (by simp), hb⟩

theorem raw_rs (w0 : World) (g1 g2 gc : Nat) (cs : Array Value) (s : ByteArray) (e : Int) (l : ByteArray) (e' n : Int) (r1 : ByteArray) (r2 : ByteArray) (r3 : Int) (w : World) (hu : codec_Reader_Raw.f s e n = some (r1, r2, r3)) (h : RS w0 g1 g2 gc cs s e l e' w) :
    Calls Try.prog 28 #[.pointer (some ⟨g1, 0, none⟩), .int .i64 n] w fun x w' => x = .returned (.string r1) ∧ RS w0 g1 g2 gc cs r2 r3 l e' w' := by
  refine (codec_Reader_Raw.calls g1 s e n r1 r2 r3 w0 w h.1 h.2.2.2 hu).mono ?_
  rintro x w1 ⟨rfl, hI, hB, hK⟩
  exact ⟨rfl, h.l hI hK hB⟩
theorem rraw_rs (w0 : World) (g1 g2 gc : Nat) (cs : Array Value) (s : ByteArray) (e : Int) (l : ByteArray) (e' n : Int) (r1 : ByteArray) (r2 : ByteArray) (r3 : Int) (w : World) (hu : atriumlaw02_reading_raw.f l e' n = some (r1, r2, r3)) (h : RS w0 g1 g2 gc cs s e l e' w) :
    Calls Try.prog 42 #[.pointer (some ⟨g2, 0, none⟩), .int .i64 n] w fun x w' => x = .returned (.string r1) ∧ RS w0 g1 g2 gc cs s e r2 r3 w' := by
  refine (atriumlaw02_reading_raw.calls g2 l e' n r1 r2 r3 w0 w h.2.1 h.2.2.2 hu).mono ?_
  rintro x w1 ⟨rfl, hX, hB, hK⟩
  exact ⟨rfl, h.r hX hK hB⟩

set_option maxHeartbeats 2000000 in
theorem step_raw (w0 : World) (g1 g2 : Nat) (s l : ByteArray) (e n : Int) (t : ByteArray) (w : World) (hI : IsS72 w0 w g1 s e) (hX : IsS39 w0 w g2 l e) (hA : Agree s l e) (hs : s.size ≤ 281474976710656) (hl : l.size ≤ 281474976710656) (hB : Below w0.heap.size w0 w) :
    Calls Try.prog 19 #[.pointer (some ⟨g1, 0, none⟩), .pointer (some ⟨g2, 0, none⟩), .agg #[.int .i64 6, .int .u64 n, .string t]] w fun r w' => r = .returned (.bool true) ∧ Steps w0 g1 g2 w' := by
  have hu := Try.underlying41
  have HR := Aside0.mk (show RS w0 g1 g2 w.heap.size #[.int .i64 6, .int .u64 n, .string t] s e l e (w.alloc (.cells #[.int .i64 6, .int .u64 n, .string t] 41)) from ⟨IsS72.alloc hI _, IsS39.alloc hX _, blk_new w _, below_alloc hB _⟩)
  clear hI hX hB
  have Hu := Aside0.mk (raw_eq s e (IntKind.i64.wrap n))
  have Hx := Aside0.mk (rraw_eq l e (IntKind.i64.wrap n))
  obtain ⟨a1, a2, a3⟩ := raw_agree s l e (IntKind.i64.wrap n) hA
  have z1 := rawP_size s e (IntKind.i64.wrap n)
  have z2 := rawR_size l e (IntKind.i64.wrap n)
  have HA := Aside0.mk a3
  have Ha1 := Aside0.mk a1
  have Ha2 := Aside0.mk a2
  clear a1 a2 a3 hA
  generalize rawP s e (IntKind.i64.wrap n) = P at *
  obtain ⟨p1, p2, p3⟩ := P
  generalize rawR l e (IntKind.i64.wrap n) = R at *
  obtain ⟨r1, r2, r3⟩ := R
  have hE := Ha2.out
  have hE1 := Ha1.out
  dsimp only at hE hE1 z1 z2 Hu Hx HA
  subst hE hE1
  clear Ha1 Ha2
  have hc0 : (w.alloc (.cells #[.int .i64 6, .int .u64 n, .string t] 41 (0, 0))).drew.cell? ⟨w.heap.size, 1, none⟩ = some (.int .u64 n) := HR.out.drew.cell 1 rfl
  go_enter Try.func19, Try.ntmps19
  go_upto_region 15 with fail
  go_region_held3 (fun w' => w'.cell? ⟨w.heap.size, 1, none⟩ = some (.int .u64 n)) (first | exact hc1 | exact hc0 | go_keep) (first
    | (go_at_call 28; refine (raw_rs w0 g1 g2 w.heap.size #[.int .i64 6, .int .u64 n, .string t] s e _ _ (IntKind.i64.wrap n) p1 p2 p3 _ Hu.out (by with_reducible first | exact HR1.out | exact HR.out | exact RS.drew HR.out)).mono ?_; rintro e1 w1 ⟨rfl, hR⟩; have HR1 := Aside0.mk hR; have hc1 := hR.cell 1 rfl; clear hR)
    | (go_at_call 42; refine (rraw_rs w0 g1 g2 w.heap.size #[.int .i64 6, .int .u64 n, .string t] _ _ l e (IntKind.i64.wrap n) p1 r2 p3 _ Hx.out (by with_reducible first | exact HR1.out | exact HR.out | exact RS.drew HR.out)).mono ?_; rintro e1 w1 ⟨rfl, hR⟩; have HR1 := Aside0.mk hR; have hc1 := hR.cell 1 rfl; clear hR))
  go_wp2
  go_ret
  exact ⟨by simp, p2, r2, p3, HR1.out.1, HR1.out.2.1, HA.out, by omega, by omega, HR1.out.2.2.2⟩

theorem left_rs (w0 : World) (g1 g2 gc : Nat) (cs : Array Value) (s : ByteArray) (e : Int) (l : ByteArray) (e' : Int) (w : World) (h : RS w0 g1 g2 gc cs s e l e' w) :
    Calls Try.prog 17 #[.pointer (some ⟨g1, 0, none⟩)] w fun x w' => x = .returned (.int .i64 (if e = 0 then (s.size : Int) else 0)) ∧ RS w0 g1 g2 gc cs s e l e' w' := by
  refine (codec_Reader_Left.calls g1 s e _ s e w0 w h.1 h.2.2.2 (show codec_Reader_Left.f s e = some (if e = 0 then (s.size : Int) else 0, s, e) by unfold codec_Reader_Left.f; split <;> rfl)).mono ?_
  rintro x w1 ⟨rfl, hI, hB, hK⟩
  exact ⟨rfl, h.l hI hK hB⟩
theorem err_rs (w0 : World) (g1 g2 gc : Nat) (cs : Array Value) (s : ByteArray) (e : Int) (l : ByteArray) (e' : Int) (w : World) (h : RS w0 g1 g2 gc cs s e l e' w) :
    Calls Try.prog 18 #[.pointer (some ⟨g1, 0, none⟩)] w fun x w' => x = .returned (.int .i64 e) ∧ RS w0 g1 g2 gc cs s e l e' w' := by
  refine (codec_Reader_Err.calls g1 s e e s e w0 w h.1 h.2.2.2 rfl).mono ?_
  rintro x w1 ⟨rfl, hI, hB, hK⟩
  exact ⟨rfl, h.l hI hK hB⟩
theorem isEmpty_not (s : ByteArray) (h : ¬ s.size = 0) : s.toList.isEmpty = false := by
  have : s.data.toList.length ≠ 0 := by rw [Array.length_toList]; exact h
  rw [ByteArray.toList_eq]
  cases hl : s.data.toList with
  | nil => simp [hl] at this
  | cons a l => rfl
def restOf (s : ByteArray) (e : Int) : Int := if e = 0 then (if (s.size : Int) > 0 then 22 else 0) else e
theorem done_if (s : ByteArray) (e : Int) : (if e = 0 then (if (s.size : Int) > 0 then some ((22 : Int), s, e) else some (0, s, e)) else some (e, s, e)) = some (if e = 0 then (if (s.size : Int) > 0 then (22 : Int) else 0) else e, s, e) := by
  by_cases he : e = 0
  · rw [if_pos he, if_pos he]
    split <;> rfl
  · rw [if_neg he, if_neg he]
theorem done_rs (w0 : World) (g1 g2 gc : Nat) (cs : Array Value) (s : ByteArray) (e : Int) (l : ByteArray) (e' : Int) (w : World) (h : RS w0 g1 g2 gc cs s e l e' w) :
    Calls Try.prog 29 #[.pointer (some ⟨g1, 0, none⟩)] w fun x w' => x = .returned (.int .i64 (restOf s e)) ∧ RS w0 g1 g2 gc cs s e l e' w' := by
  refine (codec_Reader_Done.calls g1 s e (restOf s e) s e w0 w h.1 h.2.2.2 (by unfold codec_Reader_Done.f codec_Reader_Err.f restOf; rw [Option.bind_some]; dsimp only; exact done_if s e)).mono ?_
  rintro x w1 ⟨rfl, hI, hB, hK⟩
  exact ⟨rfl, h.l hI hK hB⟩

set_option maxHeartbeats 2000000 in
theorem step_look (w0 : World) (g1 g2 : Nat) (s l : ByteArray) (e kind n : Int) (t : ByteArray) (w : World) (hk : kind < 0 ∨ 6 < kind) (hI : IsS72 w0 w g1 s e) (hX : IsS39 w0 w g2 l e) (hA : Agree s l e) (hs : s.size ≤ 281474976710656) (hl : l.size ≤ 281474976710656) (hB : Below w0.heap.size w0 w) :
    Calls Try.prog 19 #[.pointer (some ⟨g1, 0, none⟩), .pointer (some ⟨g2, 0, none⟩), .agg #[.int .i64 kind, .int .u64 n, .string t]] w fun r w' => r = .returned (.bool true) ∧ Steps w0 g1 g2 w' := by
  have hu := Try.underlying41
  have hu2 := Try.underlying39
  have hup2 := Try.underlying37
  have HR := Aside0.mk (show RS w0 g1 g2 w.heap.size #[.int .i64 kind, .int .u64 n, .string t] s e l e (w.alloc (.cells #[.int .i64 kind, .int .u64 n, .string t] 41)) from ⟨IsS72.alloc hI _, IsS39.alloc hX _, blk_new w _, below_alloc hB _⟩)
  have HA := Aside0.mk hA
  clear hI hX hB
  have k0 : (kind == 0) = false := beq_eq_false_iff_ne.mpr (by omega)
  have k1 : (kind == 1) = false := beq_eq_false_iff_ne.mpr (by omega)
  have k2 : (kind == 2) = false := beq_eq_false_iff_ne.mpr (by omega)
  have k3 : (kind == 3) = false := beq_eq_false_iff_ne.mpr (by omega)
  have k4 : (kind == 4) = false := beq_eq_false_iff_ne.mpr (by omega)
  have k5 : (kind == 5) = false := beq_eq_false_iff_ne.mpr (by omega)
  have k6 : (kind == 6) = false := beq_eq_false_iff_ne.mpr (by omega)
  have hc0 : (w.alloc (.cells #[.int .i64 kind, .int .u64 n, .string t] 41 (0, 0))).cell? ⟨g2, 0, none⟩ = some (.string l) := (blk_cell HR.out.2.1.1 0).trans rfl
  have hc1 : (w.alloc (.cells #[.int .i64 kind, .int .u64 n, .string t] 41 (0, 0))).cell? ⟨g2, 1, none⟩ = some (.int .i64 e) := (blk_cell HR.out.2.1.1 1).trans rfl
  clear hk
  by_cases he : e = 0
  · subst he
    obtain rfl := hA.1 rfl
    clear hA
    by_cases hz : s.size = 0
    · obtain rfl : s = ⟨#[]⟩ := by
        rcases s with ⟨⟨l⟩⟩
        cases l with
        | nil => rfl
        | cons a l => cases hz
      have HD := Aside0.mk (show restOf ⟨#[]⟩ 0 = 0 from rfl)
      go_enter Try.func19, Try.ntmps19
      go_upto_region 19 with fail
      go_region_held3 (fun w' => w'.cell? ⟨g2, 0, none⟩ = some (.string ⟨#[]⟩) ∧ w'.cell? ⟨g2, 1, none⟩ = some (.int .i64 0)) (first | exact ⟨hd0, hd1⟩ | exact ⟨hc0, hc1⟩ | go_keep) (first
        | (go_at_call 17; refine (left_rs w0 g1 g2 w.heap.size _ ⟨#[]⟩ 0 ⟨#[]⟩ 0 _ (by with_reducible first | exact HR1.out | exact HR.out | exact RS.drew HR.out | exact RS.drewN HR.out _)).mono ?_; rw [if_pos rfl]; rintro e1 w1 ⟨rfl, hR⟩; have HR1 := Aside0.mk hR; have hd0 : w1.cell? ⟨g2, 0, none⟩ = some (.string ⟨#[]⟩) := (blk_cell hR.2.1.1 0).trans rfl; have hd1 : w1.cell? ⟨g2, 1, none⟩ = some (.int .i64 0) := (blk_cell hR.2.1.1 1).trans rfl; clear hR)
        | (go_at_call 18; refine (err_rs w0 g1 g2 w.heap.size _ ⟨#[]⟩ 0 ⟨#[]⟩ 0 _ (by with_reducible first | exact HR1.out | exact HR.out | exact RS.drew HR.out | exact RS.drewN HR.out _)).mono ?_; rintro e1 w1 ⟨rfl, hR⟩; have HR1 := Aside0.mk hR; have hd0 : w1.cell? ⟨g2, 0, none⟩ = some (.string ⟨#[]⟩) := (blk_cell hR.2.1.1 0).trans rfl; have hd1 : w1.cell? ⟨g2, 1, none⟩ = some (.int .i64 0) := (blk_cell hR.2.1.1 1).trans rfl; clear hR)
        | (go_at_call 29; refine (done_rs w0 g1 g2 w.heap.size _ ⟨#[]⟩ 0 ⟨#[]⟩ 0 _ (by with_reducible first | exact HR1.out | exact HR.out | exact RS.drew HR.out | exact RS.drewN HR.out _)).mono ?_; rw [HD.out]; rintro e1 w1 ⟨rfl, hR⟩; have HR1 := Aside0.mk hR; have hd0 : w1.cell? ⟨g2, 0, none⟩ = some (.string ⟨#[]⟩) := (blk_cell hR.2.1.1 0).trans rfl; have hd1 : w1.cell? ⟨g2, 1, none⟩ = some (.int .i64 0) := (blk_cell hR.2.1.1 1).trans rfl; clear hR))
      go_wp2
      go_ret
      exact ⟨by simp, ⟨#[]⟩, ⟨#[]⟩, 0, HR1.out.1, HR1.out.2.1, HA.out, by omega, by omega, HR1.out.2.2.2⟩
    · have hne : (!s.toList.isEmpty) = true := by
        rw [isEmpty_not s hz]; rfl
      have HD := Aside0.mk (show restOf s 0 = 22 by unfold restOf; rw [if_pos rfl, if_pos (by omega)])
      clear hz
      go_enter Try.func19, Try.ntmps19
      go_upto_region 19 with fail
      go_region_held3 (fun w' => w'.cell? ⟨g2, 0, none⟩ = some (.string s) ∧ w'.cell? ⟨g2, 1, none⟩ = some (.int .i64 0)) (first | exact ⟨hd0, hd1⟩ | exact ⟨hc0, hc1⟩ | go_keep) (first
        | (go_at_call 17; refine (left_rs w0 g1 g2 w.heap.size _ s 0 s 0 _ (by with_reducible first | exact HR1.out | exact HR.out | exact RS.drew HR.out | exact RS.drewN HR.out _)).mono ?_; rw [if_pos rfl]; rintro e1 w1 ⟨rfl, hR⟩; have HR1 := Aside0.mk hR; have hd0 : w1.cell? ⟨g2, 0, none⟩ = some (.string s) := (blk_cell hR.2.1.1 0).trans rfl; have hd1 : w1.cell? ⟨g2, 1, none⟩ = some (.int .i64 0) := (blk_cell hR.2.1.1 1).trans rfl; clear hR)
        | (go_at_call 18; refine (err_rs w0 g1 g2 w.heap.size _ s 0 s 0 _ (by with_reducible first | exact HR1.out | exact HR.out | exact RS.drew HR.out | exact RS.drewN HR.out _)).mono ?_; rintro e1 w1 ⟨rfl, hR⟩; have HR1 := Aside0.mk hR; have hd0 : w1.cell? ⟨g2, 0, none⟩ = some (.string s) := (blk_cell hR.2.1.1 0).trans rfl; have hd1 : w1.cell? ⟨g2, 1, none⟩ = some (.int .i64 0) := (blk_cell hR.2.1.1 1).trans rfl; clear hR)
        | (go_at_call 29; refine (done_rs w0 g1 g2 w.heap.size _ s 0 s 0 _ (by with_reducible first | exact HR1.out | exact HR.out | exact RS.drew HR.out | exact RS.drewN HR.out _)).mono ?_; rw [HD.out]; rintro e1 w1 ⟨rfl, hR⟩; have HR1 := Aside0.mk hR; have hd0 : w1.cell? ⟨g2, 0, none⟩ = some (.string s) := (blk_cell hR.2.1.1 0).trans rfl; have hd1 : w1.cell? ⟨g2, 1, none⟩ = some (.int .i64 0) := (blk_cell hR.2.1.1 1).trans rfl; clear hR))
      go_wp2
      go_ret
      exact ⟨by simp, s, s, 0, HR1.out.1, HR1.out.2.1, HA.out, by omega, by omega, HR1.out.2.2.2⟩
  · obtain rfl := hA.2 he
    clear hA
    have He := Aside0.mk he
    have he2 : (e == 0) = false := beq_eq_false_iff_ne.mpr he
    have HD := Aside0.mk (show restOf s e = e by unfold restOf; rw [if_neg he])
    clear he
    go_enter Try.func19, Try.ntmps19
    go_upto_region 19 with fail
    go_region_held3 (fun w' => w'.cell? ⟨g2, 0, none⟩ = some (.string ⟨#[]⟩) ∧ w'.cell? ⟨g2, 1, none⟩ = some (.int .i64 e)) (first | exact ⟨hd0, hd1⟩ | exact ⟨hc0, hc1⟩ | go_keep) (first
      | (go_at_call 17; refine (left_rs w0 g1 g2 w.heap.size _ s e ⟨#[]⟩ e _ (by with_reducible first | exact HR1.out | exact HR.out | exact RS.drew HR.out | exact RS.drewN HR.out _)).mono ?_; rw [if_neg He.out]; rintro e1 w1 ⟨rfl, hR⟩; have HR1 := Aside0.mk hR; have hd0 : w1.cell? ⟨g2, 0, none⟩ = some (.string ⟨#[]⟩) := (blk_cell hR.2.1.1 0).trans rfl; have hd1 : w1.cell? ⟨g2, 1, none⟩ = some (.int .i64 e) := (blk_cell hR.2.1.1 1).trans rfl; clear hR)
      | (go_at_call 18; refine (err_rs w0 g1 g2 w.heap.size _ s e ⟨#[]⟩ e _ (by with_reducible first | exact HR1.out | exact HR.out | exact RS.drew HR.out | exact RS.drewN HR.out _)).mono ?_; rintro e1 w1 ⟨rfl, hR⟩; have HR1 := Aside0.mk hR; have hd0 : w1.cell? ⟨g2, 0, none⟩ = some (.string ⟨#[]⟩) := (blk_cell hR.2.1.1 0).trans rfl; have hd1 : w1.cell? ⟨g2, 1, none⟩ = some (.int .i64 e) := (blk_cell hR.2.1.1 1).trans rfl; clear hR)
      | (go_at_call 29; refine (done_rs w0 g1 g2 w.heap.size _ s e ⟨#[]⟩ e _ (by with_reducible first | exact HR1.out | exact HR.out | exact RS.drew HR.out | exact RS.drewN HR.out _)).mono ?_; rw [HD.out]; rintro e1 w1 ⟨rfl, hR⟩; have HR1 := Aside0.mk hR; have hd0 : w1.cell? ⟨g2, 0, none⟩ = some (.string ⟨#[]⟩) := (blk_cell hR.2.1.1 0).trans rfl; have hd1 : w1.cell? ⟨g2, 1, none⟩ = some (.int .i64 e) := (blk_cell hR.2.1.1 1).trans rfl; clear hR))
    go_wp2
    go_ret
    exact ⟨by simp, s, ⟨#[]⟩, e, HR1.out.1, HR1.out.2.1, HA.out, by omega, by omega, HR1.out.2.2.2⟩

theorem step_any (w0 : World) (g1 g2 : Nat) (s l : ByteArray) (e kind n : Int) (t : ByteArray) (w : World) (h0 : 0 ≤ n) (h1 : n < 18446744073709551616) (hI : IsS72 w0 w g1 s e) (hX : IsS39 w0 w g2 l e) (hA : Agree s l e) (hs : s.size ≤ 281474976710656) (hl : l.size ≤ 281474976710656) (hB : Below w0.heap.size w0 w) :
    Calls Try.prog 19 #[.pointer (some ⟨g1, 0, none⟩), .pointer (some ⟨g2, 0, none⟩), .agg #[.int .i64 kind, .int .u64 n, .string t]] w fun r w' => r = .returned (.bool true) ∧ Steps w0 g1 g2 w' := by
  by_cases hk : kind < 0 ∨ 6 < kind
  · exact step_look w0 g1 g2 s l e kind n t w hk hI hX hA hs hl hB
  · have hc : kind = 0 ∨ kind = 1 ∨ kind = 2 ∨ kind = 3 ∨ kind = 4 ∨ kind = 5 ∨ kind = 6 := by omega
    rcases hc with rfl | rfl | rfl | rfl | rfl | rfl | rfl
    · exact step_u8 w0 g1 g2 s l e n t w hI hX hA hs hl hB
    · exact step_u16 w0 g1 g2 s l e n t w hI hX hA hs hl hB
    · exact step_u32 w0 g1 g2 s l e n t w hI hX hA hs hl hB
    · exact step_u64 w0 g1 g2 s l e n t w hI hX hA hs hl hB
    · exact step_varint w0 g1 g2 s l e n t w hI hX hA hs hl hB
    · exact step_text w0 g1 g2 s l e n t w hI hX hA hs hl hB
    · exact step_raw w0 g1 g2 s l e n t w hI hX hA hs hl hB
end Go.Proofs.Ytjlohahknngmmaa
