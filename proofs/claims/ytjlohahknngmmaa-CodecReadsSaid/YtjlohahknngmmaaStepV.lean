/- Varints and texts: what the codec's Reader and the document's reading tell: plain. -/
import Derived.Test.YtjlohahknngmmaaStepP
namespace Go.Proofs.Ytjlohahknngmmaa.PureC
set_option linter.unusedVariables false
open Go Go.RowKit Go.Proofs.Ytjlohahknngmmaa Go.Proofs.Ytjlohahknngmmaa.PC Go.Proofs.YtjlohahknngmmaaW.PrintWords Go.Proofs.YtjlohahknngmmaaW.PrintLast

theorem rv_facts (t : List Int) : ∀ p : List Int, IsBytes t → ((rv p t).2.2 = 0 ∧ (p.length : Int) < (rv p t).2.1 ∧ (rv p t).2.1 ≤ p.length + t.length) ∨ (rv p t) = (0, 0, 20) ∨ (rv p t) = (0, 0, 21) := by
  induction t with
  | nil => intro p _; exact .inr (.inl rfl)
  | cons c t ih =>
    intro p hb
    simp only [rv]
    split
    · exact .inr (.inr rfl)
    · split
      · split
        · exact .inr (.inr rfl)
        · refine .inl ⟨rfl, ?_, ?_⟩
          · show (p.length : Int) < p.length + 1
            omega
          · show (p.length : Int) + 1 ≤ _
            simp only [List.length_cons]; omega
      · rcases ih (p ++ [c]) (fun x hx => hb x (List.mem_cons_of_mem _ hx)) with ⟨h1, h2, h3⟩ | h | h
        · rw [List.length_append, List.length_singleton] at h2 h3
          exact .inl ⟨h1, by omega, by simp only [List.length_cons]; omega⟩
        · exact .inr (.inl h)
        · exact .inr (.inr h)

theorem pow128_9 {i : Nat} (h : i ≤ 9) : (128 : Int) ^ i ≤ 9223372036854775808 := by
  have : i = 0 ∨ i = 1 ∨ i = 2 ∨ i = 3 ∨ i = 4 ∨ i = 5 ∨ i = 6 ∨ i = 7 ∨ i = 8 ∨ i = 9 := by omega
  rcases this with rfl | rfl | rfl | rfl | rfl | rfl | rfl | rfl | rfl | rfl <;> decide

/-- The document's number, from its highest group. -/
theorem ref_l1 (s : ByteArray) (L : List Int) (i : Nat) (hi : i ≤ 9) (hL : bytesOf s = L) (hs : i < L.length) (hv : lv (L.take (i + 1)) < 18446744073709551616) (j : Nat) : j ≤ i + 1 →
    Ev (fun k => atriumref02_ReadVarint.l1 k s (i : Int) (lv ((L.take (i + 1)).drop j)) ((j : Int) - 1)) (lv (L.take (i + 1)), (i : Int) + 1, 0) := by
  have hl : L.length = s.size := by rw [← hL, bytesOf_length]
  have hw : wrap64 ((i : Int) + 1) = (i : Int) + 1 := wrap64_id (by omega) (by omega)
  induction j with
  | zero =>
    intro _
    refine Ev.step (fun k => by simp only [atriumref02_ReadVarint.l1]; exact rfl) (evIfNeg (by omega) ?_)
    rw [hw, List.drop_zero]
    exact Ev.now _
  | succ j ih =>
    intro hj
    have h1 := ih (by omega)
    have e1 : ((j + 1 : Nat) : Int) - 1 = (j : Int) := by omega
    have e2 : wrap64 ((j : Int) - 1) = (j : Int) - 1 := wrap64_id (by omega) (by omega)
    have hlt : (L.take (i + 1)).length = i + 1 := by rw [List.length_take]; omega
    have hbt : bt s (j : Int) = (L.take (i + 1))[j]'(by omega) := by
      rw [← rd_bytesOf, hL]; simp [rd, List.getD_eq_getElem?_getD, List.getElem?_eq_getElem (show j < L.length by omega)]
    have hr := bt_range s (j : Int)
    have hd : lv ((L.take (i + 1)).drop j) = bt s (j : Int) % 128 + 128 * lv ((L.take (i + 1)).drop (j + 1)) := by
      rw [List.drop_eq_getElem_cons (by omega), lv, hbt]
    have hrg := lv_range ((L.take (i + 1)).drop (j + 1))
    have hlen : ((L.take (i + 1)).drop (j + 1)).length = i - j := by rw [List.length_drop, hlt]; omega
    rw [hlen] at hrg
    have hb : lv ((L.take (i + 1)).drop j) < 18446744073709551616 := by
      cases j with
      | zero => rw [List.drop_zero]; exact hv
      | succ j =>
        have h2 := lv_range ((L.take (i + 1)).drop (j + 1))
        have h3 : ((L.take (i + 1)).drop (j + 1)).length = i - j := by rw [List.length_drop, hlt]; omega
        rw [h3] at h2
        have := pow128_9 (i := i - j) (by omega)
        omega
    rw [e1]
    refine Ev.step (fun k => by simp only [atriumref02_ReadVarint.l1]; exact rfl) (evIfPos (by omega) (evIfPos (by omega) (evIfPos (by omega) ?_)))
    rw [e2, show Int.tmod (bt s (j : Int)) 128 = bt s (j : Int) % 128 from Int.tmod_eq_emod_of_nonneg hr.1]
    rw [hd] at hb h1
    generalize lv ((L.take (i + 1)).drop (j + 1)) = x at *
    rw [u64w (x := x * 128) (by omega) (by omega), u64w (x := bt s (j : Int) % 128) (by omega) (by omega), u64w (by omega) (by omega), show x * 128 + bt s (j : Int) % 128 = bt s (j : Int) % 128 + 128 * x by omega]
    exact h1

theorem ref_shape_loop (s : ByteArray) (hs : s.size ≤ 281474976710656) (t : List Int) : ∀ (p : List Int), bytesOf s = p ++ t → p.length ≤ 9 → Ev (fun k => atriumref02_ReadVarint.l0 k s (p.length : Int)) (rv p t) := by
  have hl := bytesOf_length s
  induction t with
  | nil =>
    intro p hp h9
    rw [hp] at hl
    simp at hl
    exact Ev.step (fun k => by simp only [atriumref02_ReadVarint.l0]; exact rfl) (evIfPos (by omega) (evIfPos (by omega) (Ev.now _)))
  | cons c t ih =>
    intro p hp h9
    have hl2 := hl
    rw [hp] at hl2
    simp at hl2
    have hbt : bt s (p.length : Int) = c := by
      rw [← rd_bytesOf, hp]; simp [rd, List.getD_eq_getElem?_getD]
    have hr := bt_range s (p.length : Int)
    rw [hbt] at hr
    have e1 : wrap64 ((p.length : Int) + 1) = (p.length : Int) + 1 := wrap64_id (by omega) (by omega)
    refine Ev.step (fun k => by simp only [atriumref02_ReadVarint.l0]; exact rfl) (evIfPos (by omega) (evIfNeg (by omega) ?_))
    rw [rv]
    have htk : (p ++ c :: t).take (p.length + 1) = p ++ [c] := by rw [List.take_append]; simp; exact List.take_of_length_le (by omega)
    have good : (p.length = 9 → c ≤ 1) → ¬ (p.length = 9 ∧ c = 0) → Ev (fun k => atriumref02_ReadVarint.j1 k s (p.length : Int) false) (if c < 128 then (if c = 0 ∧ 0 < p.length then (0, 0, 21) else (lv (p ++ [c]), (p.length : Int) + 1, 0)) else rv (p ++ [c]) t) := by
      intro h9c h9z
      refine Ev.step (fun k => by simp only [atriumref02_ReadVarint.j1]; exact rfl) (evIfNeg (show ¬ (false = true) by decide) (evIfPos (by omega) (evIfPos (by omega) ?_)))
      rw [hbt, e1]
      by_cases hc : c < 128
      · rw [if_pos hc]
        refine evIfNeg (by omega) ?_
        have fin : Ev (fun k => atriumref02_ReadVarint.l1 k s (p.length : Int) 0 (p.length : Int)) (lv (p ++ [c]), (p.length : Int) + 1, 0) := by
          have hb : lv (p ++ [c]) < 18446744073709551616 := by
            rw [lv_snoc]
            have h2 := lv_range p
            have h3 := pow128_9 h9
            by_cases h8 : p.length ≤ 8
            · have h4 := lv_range (p ++ [c])
              rw [lv_snoc, List.length_append, List.length_singleton] at h4
              have h5 := pow128_9 (i := p.length + 1) (by omega)
              omega
            · have h6 : c = 1 := by have := h9c (by omega); omega
              rw [h6, show (1 : Int) % 128 = 1 by decide, Int.mul_one]
              omega
          have h := ref_l1 s (p ++ c :: t) p.length h9 hp (by simp) (by rw [htk]; exact hb) (p.length + 1) (Nat.le_refl _)
          rw [htk, List.drop_of_length_le (by simp)] at h
          rw [show ((p.length + 1 : Nat) : Int) - 1 = (p.length : Int) by omega] at h
          exact h
        by_cases hc0 : c = 0
        · refine evIfPos hc0 ?_
          by_cases hp0 : 0 < p.length
          · rw [if_pos (show c = 0 ∧ 0 < p.length from ⟨hc0, hp0⟩), show decide ((p.length : Int) > 0) = true from decide_eq_true (by omega)]
            exact Ev.step (fun k => by simp only [atriumref02_ReadVarint.j2]; exact rfl) (evIfPos (show true = true from rfl) (Ev.now _))
          · rw [if_neg (show ¬ (c = 0 ∧ 0 < p.length) from fun h => hp0 h.2), show decide ((p.length : Int) > 0) = false from decide_eq_false (by omega)]
            exact Ev.step (fun k => by simp only [atriumref02_ReadVarint.j2]; exact rfl) (evIfNeg (show ¬ (false = true) by decide) fin)
        · rw [if_neg (show ¬ (c = 0 ∧ 0 < p.length) from fun h => hc0 h.1)]
          exact evIfNeg hc0 (Ev.step (fun k => by simp only [atriumref02_ReadVarint.j2]; exact rfl) (evIfNeg (show ¬ (false = true) by decide) fin))
      · rw [if_neg hc]
        refine evIfPos (by omega) ?_
        have h := ih (p ++ [c]) (by rw [hp]; simp) (by
          rw [List.length_append, List.length_singleton]
          have : p.length ≠ 9 := fun h => by have := h9c h; omega
          omega)
        rw [List.length_append, List.length_singleton] at h
        exact h
    by_cases hp9 : p.length = 9
    · refine evIfPos (by omega) (evIfPos (by omega) ?_)
      have hb9 : bt s 9 = c := by rw [← hbt, hp9]; rfl
      rw [hb9]
      by_cases hc1 : c > 1
      · rw [if_pos (show p.length = 9 ∧ c ≠ 1 from ⟨hp9, by omega⟩), decide_eq_true hc1]
        exact Ev.step (fun k => by simp only [atriumref02_ReadVarint.j1]; exact rfl) (evIfPos (show true = true from rfl) (Ev.now _))
      · rw [decide_eq_false hc1]
        by_cases hc0 : c = 0
        · rw [if_pos (show p.length = 9 ∧ c ≠ 1 from ⟨hp9, by omega⟩)]
          refine Ev.step (fun k => by simp only [atriumref02_ReadVarint.j1]; exact rfl) (evIfNeg (show ¬ (false = true) by decide) (evIfPos (by omega) (evIfPos (by omega) ?_)))
          rw [hbt]
          refine evIfNeg (by omega) (evIfPos hc0 ?_)
          rw [decide_eq_true (show (p.length : Int) > 0 by omega)]
          exact Ev.step (fun k => by simp only [atriumref02_ReadVarint.j2]; exact rfl) (evIfPos (show true = true from rfl) (Ev.now _))
        · rw [if_neg (show ¬ (p.length = 9 ∧ c ≠ 1) from fun h => h.2 (by omega))]
          exact good (fun _ => by omega) (fun h => hc0 h.2)
    · rw [if_neg (show ¬ (p.length = 9 ∧ c ≠ 1) from fun h => hp9 h.1)]
      exact evIfNeg (by omega) (good (fun h => absurd h hp9) (fun h => hp9 h.1))
theorem ref_shape_ev (s : ByteArray) (hs : s.size ≤ 281474976710656) : Ev (fun k => atriumref02_ReadVarint.f k s) (rv [] (bytesOf s)) := ref_shape_loop s hs (bytesOf s) [] rfl (by decide)
end Go.Proofs.Ytjlohahknngmmaa.PureC
namespace Go.Proofs.Ytjlohahknngmmaa.PureC
set_option linter.unusedVariables false
open Go Go.RowKit Go.Proofs.Ytjlohahknngmmaa Go.Proofs.Ytjlohahknngmmaa.PC Go.Proofs.YtjlohahknngmmaaW.PrintWords Go.Proofs.YtjlohahknngmmaaW.PrintLast
def varP (s : ByteArray) (e : Int) : Int × ByteArray × Int :=
  if e = 0 then (if (rv [] (bytesOf s)).2.2 = 0 then ((rv [] (bytesOf s)).1, s.extract (rv [] (bytesOf s)).2.1.toNat s.size, 0) else (0, s, (rv [] (bytesOf s)).2.2)) else (0, s, e)
def varR (s : ByteArray) (e : Int) : Int × ByteArray × Int :=
  if e = 0 then (if (rv [] (bytesOf s)).2.2 = 0 then ((rv [] (bytesOf s)).1, s.extract (rv [] (bytesOf s)).2.1.toNat s.size, 0) else (0, ⟨#[]⟩, (rv [] (bytesOf s)).2.2)) else (0, s, e)
theorem rv_size (s : ByteArray) (h : (rv [] (bytesOf s)).2.2 = 0) : 0 ≤ (rv [] (bytesOf s)).2.1 ∧ (rv [] (bytesOf s)).2.1 ≤ (s.size : Int) := by
  have hl := bytesOf_length s
  rcases rv_facts (bytesOf s) [] (bytesOf_are s) with ⟨_, h2, h3⟩ | h2 | h2
  · simp at h2 h3; omega
  · rw [h2] at h; exact absurd h (by decide)
  · rw [h2] at h; exact absurd h (by decide)
theorem varint_ev (s : ByteArray) (e : Int) (hs : s.size ≤ 281474976710656) : Ev (fun k => codec_Reader_Varint.f k s e) (varP s e) := by
  unfold varP
  by_cases he : e = 0
  · subst he
    rw [if_pos rfl]
    refine evIfPos rfl (Ev.bind (shape_ev s hs) ?_)
    by_cases h : (rv [] (bytesOf s)).2.2 = 0
    · have hz := rv_size s h
      simp only [if_pos h]
      exact evIfPos hz.1 (evIfPos hz.2 (Ev.now _))
    · simp only [if_neg h]
      exact Ev.now _
  · rw [if_neg he]
    exact evIfNeg he (Ev.now _)
theorem rvarint_ev (s : ByteArray) (e : Int) (hs : s.size ≤ 281474976710656) : Ev (fun k => atriumlaw02_reading_varint.f k s e) (varR s e) := by
  unfold varR
  by_cases he : e = 0
  · subst he
    rw [if_pos rfl]
    refine evIfPos rfl (Ev.bind (ref_shape_ev s hs) ?_)
    by_cases h : (rv [] (bytesOf s)).2.2 = 0
    · have hz := rv_size s h
      simp only [if_pos h]
      exact evIfPos hz.1 (evIfPos hz.2 (Ev.now _))
    · simp only [if_neg h]
      exact Ev.now _
  · rw [if_neg he]
    exact evIfNeg he (Ev.now _)
theorem var_agree (s l : ByteArray) (e : Int) (h : Agree s l e) : (varP s e).1 = (varR l e).1 ∧ (varP s e).2.2 = (varR l e).2.2 ∧ Agree (varP s e).2.1 (varR l e).2.1 (varP s e).2.2 := by
  unfold varP varR
  by_cases he : e = 0
  · have := h.1 he
    subst this
    subst he
    simp only [if_true]
    split
    · exact ⟨rfl, rfl, fun _ => rfl, fun h => absurd rfl h⟩
    · rename_i hn
      exact ⟨rfl, rfl, fun h => absurd h hn, fun _ => rfl⟩
  · simp only [if_neg he]
    exact ⟨trivial, trivial, h⟩
end Go.Proofs.Ytjlohahknngmmaa.PureC
