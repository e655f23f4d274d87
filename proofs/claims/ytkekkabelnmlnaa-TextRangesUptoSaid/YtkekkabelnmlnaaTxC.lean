/- Walks: Digits (by runes), Text (a Builder over a list of runes). -/
import Derived.Test.YtkekkabelnmlnaaTxB
import Derived.Test.YtkekkabelnmlnaaBld
namespace Go.Proofs.Ytkekkabelnmlnaa
open Go Go.RowKit
set_option linter.unusedVariables false

/-- The number of digits, the leftmost first. -/
def digVal (l : List UInt8) : Nat := l.foldl (fun n c => 10 * n + (c.toNat - 48)) 0
def isDig (c : UInt8) : Bool := decide (48 ≤ c.toNat) && decide (c.toNat ≤ 57)
theorem digVal_snoc (l : List UInt8) (c : UInt8) : digVal (l ++ [c]) = 10 * digVal l + (c.toNat - 48) := by simp [digVal]
theorem digVal_from (l : List UInt8) : ∀ n, l.all isDig = true → l.foldl (fun n c => 10 * n + (c.toNat - 48)) n + 1 ≤ (n + 1) * 10 ^ l.length := by
  induction l with
  | nil => intro n _; simp
  | cons c l ih =>
    intro n h
    simp only [List.all_cons, Bool.and_eq_true, isDig, decide_eq_true_eq] at h
    have h1 := ih (10 * n + (c.toNat - 48)) h.2
    simp only [List.foldl_cons, List.length_cons, Nat.pow_succ]
    refine Nat.le_trans h1 ?_
    rw [Nat.mul_comm (10 ^ l.length) 10, ← Nat.mul_assoc]
    exact Nat.mul_le_mul_right _ (by omega)
theorem digVal_lt (l : List UInt8) (h : l.all isDig = true) : digVal l < 10 ^ l.length := by
  have := digVal_from l 0 h
  unfold digVal
  omega
theorem digVal_le18 (l : List UInt8) (h : l.all isDig = true) (hl : l.length ≤ 18) : digVal l < 1000000000000000000 := by
  refine Nat.lt_of_lt_of_le (digVal_lt l h) ?_
  have : (10 : Nat) ^ l.length ≤ 10 ^ 18 := Nat.pow_le_pow_right (by omega) hl
  simpa using this
theorem digVal_le17 (l : List UInt8) (h : l.all isDig = true) (hl : l.length ≤ 17) : digVal l < 100000000000000000 := by
  refine Nat.lt_of_lt_of_le (digVal_lt l h) ?_
  have : (10 : Nat) ^ l.length ≤ 10 ^ 17 := Nat.pow_le_pow_right (by omega) hl
  simpa using this

def headNought (s : ByteArray) : Bool := decide (s.data.toList.head? = some 48)
def digitsRes (s : ByteArray) (most : Int) : Int × Int :=
  if s.size < 1 then (0, 150) else if 18 < s.size then (0, 150) else if 1 < s.size ∧ headNought s = true then (0, 150)
  else if s.data.toList.all isDig = true then (if most < (digVal s.data.toList : Int) then (0, 3) else ((digVal s.data.toList : Int), 0)) else (0, 150)

theorem take_snoc_b (s : ByteArray) (k : Nat) (h : k < s.size) : s.data.toList.take (k + 1) = s.data.toList.take k ++ [s[k]'h] := by
  rw [List.take_succ_eq_append_getElem (by simpa using h)]; rfl

theorem head_byte (s : ByteArray) (h : 0 < s.size) : s.data.toList.head? = some (s[0]'h) := by
  have h' : 0 < s.data.toList.length := by rw [Array.length_toList]; exact h
  rw [List.head?_eq_getElem?, List.getElem?_eq_getElem h']; rfl

theorem all_take_succ (s : ByteArray) (k : Nat) (h : k < s.size) : (s.data.toList.take (k + 1)).all isDig = ((s.data.toList.take k).all isDig && isDig (s[k]'h)) := by
  rw [take_snoc_b s k h, List.all_append]; simp

theorem all_false_at (s : ByteArray) (k : Nat) (h : k < s.size) (hk : isDig (s[k]'h) = false) : s.data.toList.all isDig = false := by
  rw [List.all_eq_false]
  refine ⟨s[k]'h, ?_, by simp [hk]⟩
  exact Array.getElem_mem_toList (xs := s.data) h

theorem dec_dig (s : ByteArray) (k : Nat) (h : k < s.size) (hd : isDig (s[k]'h) = false) : (Utf8.decode s k).1 < 48 ∨ 57 < (Utf8.decode s k).1 := by
  by_cases ha : (s[k]'h).toNat < 128
  · rw [decode_ascii s k h ha]
    simp only [isDig, Bool.and_eq_false_iff, decide_eq_false_iff_not] at hd
    omega
  · have := (decode_high s k h (by omega)).1
    omega

def RetPair (p : Int × Int) (e : Ending) : Prop := e = .returned (.tuple #[.int .i64 p.1, .int .i64 p.2])

set_option maxHeartbeats 2000000 in
theorem digits_any (s : ByteArray) (most : Int) (w : World) :
    Calls Try.prog 9 #[.string s, .int .i64 most] w fun e w' => RetPair (digitsRes s most) e ∧ Below w.heap.size w w' := by
  by_cases h1 : s.size < 1
  · have Hr := Lib.hid (show digitsRes s most = (0, 150) by simp only [digitsRes, h1, if_true])
    go_enter Try.func9, Try.ntmps9
    go_wp2
    go_ret2
    exact ⟨by rw [Hr.out]; rfl, Below.refl _ _⟩
  by_cases h2 : 18 < s.size
  · have Hr := Lib.hid (show digitsRes s most = (0, 150) by simp only [digitsRes, h1, h2, if_true, if_false])
    go_enter Try.func9, Try.ntmps9
    go_wp2
    go_ret2
    exact ⟨by rw [Hr.out]; rfl, Below.refl _ _⟩
  have h0 : 0 < s.size := by omega
  by_cases h3 : 1 < s.size ∧ headNought s = true
  · have Hr := Lib.hid (show digitsRes s most = (0, 150) by simp only [digitsRes, h1, h2, h3, if_false]; simp)
    have hx : (((s[0]'h0).toNat : Int) == 48) = true := by
      have := h3.2
      simp only [headNought, head_byte s h0, decide_eq_true_eq, Option.some.injEq] at this
      rw [this]; rfl
    have h31 := h3.1
    clear h3
    go_enter Try.func9, Try.ntmps9
    go_wp2
    go_ret2
    exact ⟨by rw [Hr.out]; rfl, Below.refl _ _⟩
  · have Hr := Lib.hid (show digitsRes s most = (if s.data.toList.all isDig = true then (if most < (digVal s.data.toList : Int) then (0, 3) else ((digVal s.data.toList : Int), 0)) else (0, 150)) by simp only [digitsRes, h1, h2, h3, if_false])
    have hx : 1 < s.size → (((s[0]'h0).toNat : Int) == 48) = false := by
      intro h
      have : ¬ headNought s = true := fun hh => h3 ⟨h, hh⟩
      simp only [headNought, head_byte s h0, decide_eq_true_eq, Option.some.injEq] at this
      rw [beq_eq_false_iff_ne]
      intro hh
      exact this (UInt8.toNat_inj.mp (by simpa using (by omega : (s[0]'h0).toNat = 48)))
    clear h3
    have hl : s.data.toList.length = s.size := Array.length_toList
    by_cases h4 : 1 < s.size
    all_goals
      try have hx' := hx h4
      clear hx
      go_enter Try.func9, Try.ntmps9
      go_wp2
      go_loopw [6] (fun n wr => ∃ k : Nat, wr.heap[w.heap.size]? = some (.stringIter s k) ∧ Below w.heap.size w wr ∧ k ≤ s.size ∧ Hid ((s.data.toList.take k).all isDig = true) ∧ n = .int .i64 (digVal (s.data.toList.take k))) (fun _ wr => s.size - wr.iterPos w.heap.size)
      case atStart => exact ⟨0, iter0 w s, (Below.refl _ w).alloc (Nat.le_refl _) _, by omega, rfl, rfl⟩
      case round =>
        obtain ⟨k, hit, hb, hk, hall, rfl⟩ := hrel
        have Hps := Lib.hid (pos_of hit)
        by_cases hp : k < s.size
        · have hit2 := Lib.iterAt_heap wr w.heap.size s k (k + (Utf8.decode s k).2) hit
          have hb2 := Lib.below_iterAt hb (k := w.heap.size) (Nat.le_refl _) s (k + (Utf8.decode s k).2)
          cases hd : isDig (s[k]'hp) with
          | true =>
            have hc : 48 ≤ (s[k]'hp).toNat ∧ (s[k]'hp).toNat ≤ 57 := by simpa [isDig] using hd
            have hdec := decode_ascii s k hp (by omega)
            rw [hdec] at hit2 hb2
            have hnx : ∀ ty, (Instr.next (.pointer (some ⟨w.heap.size, 0, none⟩)) true ty).run Try.prog wr = _ := fun ty => Lib.run_next_ascii_at wr w.heap.size s k ty hit hp (by omega)
            have hlt := digVal_le17 (s.data.toList.take k) hall.out (by rw [List.length_take]; omega)
            have Hall := Lib.hid (show (s.data.toList.take (k + 1)).all isDig = true by rw [all_take_succ s k hp, hall.out, hd]; rfl)
            have Hv := Lib.hid (show digVal (s.data.toList.take (k + 1)) = 10 * digVal (s.data.toList.take k) + ((s[k]'hp).toNat - 48) by rw [take_snoc_b s k hp, digVal_snoc])
            have Hps2 := Lib.hid (pos_of hit2)
            have hc1 := hc.1
            have hc2 := hc.2
            generalize hcc : (s[k]'hp).toNat = c at *
            have Hcc := Lib.hid hcc
            generalize hvv : digVal (s.data.toList.take k) = v at *
            have Hvv := Lib.hid hvv
            clear hcc hvv hc hdec hd hit
            go_wp2
            go_roundw
            case rel => exact ⟨k + 1, hit2, hb2, by omega, Hall, by rw [Hv.out]; have e : ((10 * v + (c - 48) : Nat) : Int) = 10 * (v : Int) + ((c : Int) - 48) := by omega
                                                                    rw [e]⟩
            case measure =>
              rw [Hps.out, Hps2.out]
              omega
          | false =>
            have hnx : ∀ ty, (Instr.next (.pointer (some ⟨w.heap.size, 0, none⟩)) true ty).run Try.prog wr = _ := fun ty => Lib.run_next_any_at wr w.heap.size s k ty hit hp
            have hbad := dec_dig s k hp hd
            have Hno := Lib.hid (all_false_at s k hp hd)
            clear hd hit
            by_cases hb1 : (Utf8.decode s k).1 < 48
            · go_wp2
              go_ret2
              exact ⟨by rw [Hr.out, Hno.out]; rfl, hb2⟩
            · have hb2' : 57 < (Utf8.decode s k).1 := by omega
              clear hbad
              go_wp2
              go_ret2
              exact ⟨by rw [Hr.out, Hno.out]; rfl, hb2⟩
        · have hnx : ∀ ty, (Instr.next (.pointer (some ⟨w.heap.size, 0, none⟩)) true ty).run Try.prog wr = _ := fun ty => Lib.run_next_end_at wr w.heap.size s k ty hit hp
          have Hfull := Lib.hid (List.take_of_length_le (l := s.data.toList) (i := k) (by omega))
          clear hit
          by_cases hm : most < (digVal (s.data.toList.take k) : Int)
          · have Hm := Lib.hid hm
            go_wp2
            go_ret2
            refine ⟨?_, hb⟩
            have hA := hall.out
            have hM := Hm.out
            rw [Hfull.out] at hA hM
            rw [Hr.out, if_pos hA, if_pos hM]; rfl
          · have Hm := Lib.hid hm
            go_wp2
            go_ret2
            refine ⟨?_, hb⟩
            have hA := hall.out
            have hM := Hm.out
            rw [Hfull.out] at hA hM
            rw [Hr.out, if_pos hA, if_neg (by omega), Hfull.out]; rfl
end Go.Proofs.Ytkekkabelnmlnaa
