-- Written by xprint.py, a program of this session, over the kit's print (functions walked by hand are taken as given); Lean checks it.
import Derived.Test.YtckbcnmcnhahhaaDoorPGx0
import Derived.Test.YtckbcnmcnhahhaaDoorPGx6
import Derived.Test.YtckbcnmcnhahhaaDoorPGx7
import Derived.Test.YtckbcnmcnhahhaaDoorPGx8
namespace Go.Proofs.YtckbcnmcnhahhaaDoor.PG
open Go.RowKit Go.Proofs.YtckbcnmcnhahhaaDoorW.PrintWords Go.Proofs.YtckbcnmcnhahhaaDoorW.PrintLast Go.Proofs.YtckbcnmcnhahhaaDoorW.PrintMore
attribute [local go_sem] max2_int min2_int max_two min_two max_three min_three max_four min_four   -- for this text's walks alone
set_option linter.unusedVariables false
set_option linter.unusedSimpArgs false

/-! ### atriumref17_line: function 47 -/
def atriumref17_line.l0 : Nat → ByteArray → Int → Option (ByteArray × ByteArray × Bool)
  | 0, _, _ => none
  | k + 1, x0, x5 => if (wrap64 (x5 + 1)) < (x0.size : Int) then (if 0 ≤ x5 then (if x5 < (x0.size : Int) then (if (bt x0 x5) = 13 then (if 0 ≤ (wrap64 (x5 + 1)) then (if (bt x0 (wrap64 (x5 + 1))) = 10 then (if x5 ≤ (x0.size : Int) then (if 0 ≤ (wrap64 (x5 + 2)) then (if (wrap64 (x5 + 2)) ≤ (x0.size : Int) then (some (x0.extract 0 (x5 : Int).toNat, x0.extract ((wrap64 (x5 + 2)) : Int).toNat x0.size, true)) else (none)) else (none)) else (none)) else (atriumref17_line.l0 k x0 (wrap64 (x5 + 1)))) else (none)) else (atriumref17_line.l0 k x0 (wrap64 (x5 + 1)))) else (none)) else (none)) else (some ((⟨#[]⟩ : ByteArray), (⟨#[]⟩ : ByteArray), false))
def atriumref17_line.f (k : Nat) (a0 : ByteArray) : Option (ByteArray × ByteArray × Bool) := atriumref17_line.l0 k a0 0
theorem atriumref17_line.mono_l : ∀ k, (∀ y0 y1, LeO (atriumref17_line.l0 k y0 y1) (atriumref17_line.l0 (k + 1) y0 y1))
  | 0 => fun _ _ r h => by simp [atriumref17_line.l0] at h
  | k + 1 => by
    have ih0 := atriumref17_line.mono_l k
    · intro y0 y1
      unfold atriumref17_line.l0
      repeat' first
      | (with_reducible exact ih0 _ _)
      | (with_reducible exact LeO.refl _)
      | (with_reducible exact LeO.none _)
      | (with_reducible refine LeO.ite ?_ ?_)
      | (with_reducible refine LeO.bind ?_ (fun _ => ?_))
      | exact ih0 _ _
      | exact LeO.none _
      | refine LeO.ite ?_ ?_
      | refine LeO.bind ?_ (fun _ => ?_)
theorem atriumref17_line.mono : ∀ a0 k, LeO (atriumref17_line.f k a0) (atriumref17_line.f (k + 1) a0) := by
  intro a0 k
  have ih0 := atriumref17_line.mono_l k
  unfold atriumref17_line.f
  repeat' first
      | (with_reducible exact ih0 _ _)
      | (with_reducible exact LeO.refl _)
      | (with_reducible exact LeO.none _)
      | (with_reducible refine LeO.ite ?_ ?_)
      | (with_reducible refine LeO.bind ?_ (fun _ => ?_))
      | exact ih0 _ _
      | exact LeO.none _
      | refine LeO.ite ?_ ?_
      | refine LeO.bind ?_ (fun _ => ?_)
set_option maxHeartbeats 8000000 in
set_option maxRecDepth 100000 in
theorem atriumref17_line.calls (k : Nat) (a0 : ByteArray) (r1 : ByteArray) (r2 : ByteArray) (r3 : Bool) (w : World) (h : atriumref17_line.f k a0 = some (r1, r2, r3)) :
    Calls Tryd.prog 47 #[.string a0] w fun e w' => e = .returned (.tuple #[.string r1, .string r2, .bool r3]) ∧ Drawn0 w w' := by
  have H : (atriumref17_line.l0 k a0 0) = some (r1, r2, r3) := h
  clear h
  have H' := Aside0.mk H
  clear H
  go_enter Tryd.func47, Tryd.ntmps47
  go_wp2
  repeat (go_quiet (fail); try go_wp2)
  go_loopg [5] k (fun kq v5 w' => ∃ (x5_1 : Int), v5 = .int .i64 x5_1 ∧ Aside0 (atriumref17_line.l0 kq a0 x5_1 = some (r1, r2, r3)) ∧ Aside0 (kq ≤ k) ∧ Drawn0 w w')
  case atStart => exact ⟨(0), (by first | rfl | (simp; done) | (simp [*]; done) | (simp <;> (generalize ByteArray.toList _ = l_; cases l_ <;> rfl))), H', ⟨Nat.le_refl _⟩, by repeat (first | exact Drawn0.refl _ | apply Drawn0.step)⟩
  case round =>
    clear H'
    obtain ⟨x5_1, rfl, HA, HK1, ⟨m1, rfl⟩⟩ := hrel
    cases gk with
    | zero => exact absurd HA.out (by simp [atriumref17_line.l0])
    | succ k1 =>
      have H := HA.out
      clear HA
      simp only [atriumref17_line.l0] at H
      by_cases c2 : (wrap64 (x5_1 + 1)) < (a0.size : Int)
      · rw [if_pos c2] at H
        have c2b0 : decide ((wrap64 (x5_1 + 1)) < (a0.size : Int)) = true := decide_eq_true c2
        clear c2
        by_cases c3 : 0 ≤ x5_1
        · rw [if_pos c3] at H
          have c3b0 : decide (0 ≤ x5_1) = true := decide_eq_true c3
          clear c3
          by_cases c4 : x5_1 < (a0.size : Int)
          · rw [if_pos c4] at H
            have c4b0 : decide (x5_1 < (a0.size : Int)) = true := decide_eq_true c4
            clear c4
            by_cases c6 : (bt a0 x5_1) = 13
            · rw [if_pos c6] at H
              have c6b0 : ((bt a0 x5_1) == 13) = true := beq_iff_eq.mpr c6
              have c6b1 : ((bt a0 x5_1) != 13) = false := bne_eq_false_iff_eq.mpr c6
              clear c6
              obtain ⟨ji7, hji7⟩ : ∃ j_ : Int, (wrap64 (x5_1 + 1)) = j_ := ⟨_, rfl⟩
              replace H : (if 0 ≤ (ji7) then (if (bt a0 (ji7)) = 10 then (if x5_1 ≤ (a0.size : Int) then (if 0 ≤ (wrap64 (x5_1 + 2)) then (if (wrap64 (x5_1 + 2)) ≤ (a0.size : Int) then (some (a0.extract 0 (x5_1 : Int).toNat, a0.extract ((wrap64 (x5_1 + 2)) : Int).toNat a0.size, true)) else (none)) else (none)) else (none)) else (atriumref17_line.l0 k1 a0 ji7)) else (none)) = some (r1, r2, r3) := by first | (rw [hji7] at H; exact H) | (simp only [hji7] at H ⊢; exact H)
              (try rw [hji7] at c2b0)
              have hji7w : (IntKind.i64.wrap (x5_1 + 1)) = ji7 := (i64_w _).trans hji7
              by_cases c8 : 0 ≤ (ji7)
              · rw [if_pos c8] at H
                have c8b0 : decide (0 ≤ (ji7)) = true := decide_eq_true c8
                clear c8
                by_cases c10 : (bt a0 (ji7)) = 10
                · rw [if_pos c10] at H
                  have c10b0 : ((bt a0 (ji7)) == 10) = true := beq_iff_eq.mpr c10
                  have c10b1 : ((bt a0 (ji7)) != 10) = false := bne_eq_false_iff_eq.mpr c10
                  clear c10
                  have c11b0 := eq_true (of_decide_eq_true (by first | (with_reducible assumption) | assumption) : 0 ≤ x5_1)
                  by_cases c12 : x5_1 ≤ (a0.size : Int)
                  · rw [if_pos c12] at H
                    have c12b0 := eq_true c12
                    have c12b1 : decide (x5_1 ≤ (a0.size : Int)) = true := decide_eq_true c12
                    clear c12
                    obtain ⟨ji13, hji13⟩ : ∃ j_ : Int, (wrap64 (x5_1 + 2)) = j_ := ⟨_, rfl⟩
                    replace H : (if 0 ≤ (ji13) then (if (ji13) ≤ (a0.size : Int) then (some (a0.extract 0 (x5_1 : Int).toNat, a0.extract ((ji13) : Int).toNat a0.size, true)) else (none)) else (none)) = some (r1, r2, r3) := by first | (rw [hji13] at H; exact H) | (simp only [hji13] at H ⊢; exact H)
                    have hji13w : (IntKind.i64.wrap (x5_1 + 2)) = ji13 := (i64_w _).trans hji13
                    by_cases c14 : 0 ≤ (ji13)
                    · rw [if_pos c14] at H
                      have c14b0 := eq_true c14
                      have c14b1 : decide (0 ≤ (ji13)) = true := decide_eq_true c14
                      clear c14
                      by_cases c15 : (ji13) ≤ (a0.size : Int)
                      · rw [if_pos c15] at H
                        have c15b0 := eq_true c15
                        have c15b1 : decide ((ji13) ≤ (a0.size : Int)) = true := decide_eq_true c15
                        clear c15
                        simp only [Option.some.injEq, Prod.mk.injEq] at H
                        obtain ⟨rfl, rfl, rfl⟩ := H
                        have p5 : 0 ≤ (x5_1 : Int) := of_decide_eq_true (by first | (with_reducible assumption) | assumption)
                        have q5 : x5_1 < (a0.size : Int) := of_decide_eq_true (by first | (with_reducible assumption) | assumption)
                        have hx5 := bt_at a0 x5_1
                        replace p5 := eq_true p5
                        replace q5 := eq_true q5
                        have p9 : 0 ≤ ((ji7) : Int) := of_decide_eq_true (by first | (with_reducible assumption) | assumption)
                        have q9 : (ji7) < (a0.size : Int) := of_decide_eq_true (by first | (with_reducible assumption) | assumption)
                        have hx9 := bt_at a0 (ji7)
                        replace p9 := eq_true p9
                        replace q9 := eq_true q9
                        go_wp2
                        repeat (go_quiet (fail); try go_wp2)
                        go_ret3
                        exact ⟨by first | rfl | (simp; done) | (simp only [← hji7, ← hji13] <;> (first | rfl | simp)) | (simp [*]; done), by repeat (first | exact Drawn0.refl _ | apply Drawn0.step)⟩
                      · rw [if_neg c15] at H
                        exact absurd H (by simp)
                    · rw [if_neg c14] at H
                      exact absurd H (by simp)
                  · rw [if_neg c12] at H
                    exact absurd H (by simp)
                · rw [if_neg c10] at H
                  have c10b0 : ((bt a0 (ji7)) == 10) = false := beq_eq_false_iff_ne.mpr c10
                  have c10b1 : ((bt a0 (ji7)) != 10) = true := bne_iff_ne.mpr c10
                  have H' := Aside0.mk H
                  clear H
                  have p5 : 0 ≤ (x5_1 : Int) := of_decide_eq_true (by first | (with_reducible assumption) | assumption)
                  have q5 : x5_1 < (a0.size : Int) := of_decide_eq_true (by first | (with_reducible assumption) | assumption)
                  have hx5 := bt_at a0 x5_1
                  replace p5 := eq_true p5
                  replace q5 := eq_true q5
                  have p9 : 0 ≤ ((ji7) : Int) := of_decide_eq_true (by first | (with_reducible assumption) | assumption)
                  have q9 : (ji7) < (a0.size : Int) := of_decide_eq_true (by first | (with_reducible assumption) | assumption)
                  have hx9 := bt_at a0 (ji7)
                  replace p9 := eq_true p9
                  replace q9 := eq_true q9
                  go_wp2
                  repeat (go_quiet (fail); try go_wp2)
                  go_roundg k1
                  case measure => have := HK1.out; omega
                  case rel => exact ⟨(ji7), (by first | rfl | (simp; done) | (simp only [← hji7] <;> (first | rfl | simp)) | (simp [*]; done)), H', ⟨by have := HK1.out; omega⟩, by repeat (first | exact Drawn0.refl _ | apply Drawn0.step)⟩
              · rw [if_neg c8] at H
                exact absurd H (by simp)
            · rw [if_neg c6] at H
              have c6b0 : ((bt a0 x5_1) == 13) = false := beq_eq_false_iff_ne.mpr c6
              have c6b1 : ((bt a0 x5_1) != 13) = true := bne_iff_ne.mpr c6
              have H' := Aside0.mk H
              clear H
              have p5 : 0 ≤ (x5_1 : Int) := of_decide_eq_true (by first | (with_reducible assumption) | assumption)
              have q5 : x5_1 < (a0.size : Int) := of_decide_eq_true (by first | (with_reducible assumption) | assumption)
              have hx5 := bt_at a0 x5_1
              replace p5 := eq_true p5
              replace q5 := eq_true q5
              go_wp2
              repeat (go_quiet (fail); try go_wp2)
              go_roundg k1
              case measure => have := HK1.out; omega
              case rel => exact ⟨(wrap64 (x5_1 + 1)), (by first | rfl | (simp; done) | (simp [*]; done) | (simp <;> (generalize ByteArray.toList _ = l_; cases l_ <;> rfl))), H', ⟨by have := HK1.out; omega⟩, by repeat (first | exact Drawn0.refl _ | apply Drawn0.step)⟩
          · rw [if_neg c4] at H
            exact absurd H (by simp)
        · rw [if_neg c3] at H
          exact absurd H (by simp)
      · rw [if_neg c2] at H
        have c2b0 : decide ((wrap64 (x5_1 + 1)) < (a0.size : Int)) = false := decide_eq_false c2
        clear c2
        simp only [Option.some.injEq, Prod.mk.injEq] at H
        obtain ⟨rfl, rfl, rfl⟩ := H
        go_wp2
        repeat (go_quiet (fail); try go_wp2)
        go_ret3
        exact ⟨by first | rfl | (simp; done) | (simp [*]; done) | (simp <;> (generalize ByteArray.toList _ = l_; cases l_ <;> rfl)), by repeat (first | exact Drawn0.refl _ | apply Drawn0.step)⟩

/-! ### atriumref17_cut: function 48 -/
def atriumref17_cut.l0 : Nat → ByteArray → Int → Int → Option (ByteArray × ByteArray × Bool)
  | 0, _, _, _ => none
  | k + 1, x0, x1, x7 => if x7 < (x0.size : Int) then (if 0 ≤ x7 then (if (bt x0 x7) = x1 then (if x7 ≤ (x0.size : Int) then (if 0 ≤ (wrap64 (x7 + 1)) then (if (wrap64 (x7 + 1)) ≤ (x0.size : Int) then (some (x0.extract 0 (x7 : Int).toNat, x0.extract ((wrap64 (x7 + 1)) : Int).toNat x0.size, true)) else (none)) else (none)) else (none)) else (atriumref17_cut.l0 k x0 x1 (wrap64 (x7 + 1)))) else (none)) else (some ((⟨#[]⟩ : ByteArray), (⟨#[]⟩ : ByteArray), false))
def atriumref17_cut.f (k : Nat) (a0 : ByteArray) (a1 : Int) : Option (ByteArray × ByteArray × Bool) := atriumref17_cut.l0 k a0 a1 0
theorem atriumref17_cut.mono_l : ∀ k, (∀ y0 y1 y2, LeO (atriumref17_cut.l0 k y0 y1 y2) (atriumref17_cut.l0 (k + 1) y0 y1 y2))
  | 0 => fun _ _ _ r h => by simp [atriumref17_cut.l0] at h
  | k + 1 => by
    have ih0 := atriumref17_cut.mono_l k
    · intro y0 y1 y2
      unfold atriumref17_cut.l0
      repeat' first
      | (with_reducible exact ih0 _ _ _)
      | (with_reducible exact LeO.refl _)
      | (with_reducible exact LeO.none _)
      | (with_reducible refine LeO.ite ?_ ?_)
      | (with_reducible refine LeO.bind ?_ (fun _ => ?_))
      | exact ih0 _ _ _
      | exact LeO.none _
      | refine LeO.ite ?_ ?_
      | refine LeO.bind ?_ (fun _ => ?_)
theorem atriumref17_cut.mono : ∀ a0 a1 k, LeO (atriumref17_cut.f k a0 a1) (atriumref17_cut.f (k + 1) a0 a1) := by
  intro a0 a1 k
  have ih0 := atriumref17_cut.mono_l k
  unfold atriumref17_cut.f
  repeat' first
      | (with_reducible exact ih0 _ _ _)
      | (with_reducible exact LeO.refl _)
      | (with_reducible exact LeO.none _)
      | (with_reducible refine LeO.ite ?_ ?_)
      | (with_reducible refine LeO.bind ?_ (fun _ => ?_))
      | exact ih0 _ _ _
      | exact LeO.none _
      | refine LeO.ite ?_ ?_
      | refine LeO.bind ?_ (fun _ => ?_)
set_option maxHeartbeats 8000000 in
set_option maxRecDepth 100000 in
theorem atriumref17_cut.calls (k : Nat) (a0 : ByteArray) (a1 : Int) (r1 : ByteArray) (r2 : ByteArray) (r3 : Bool) (w : World) (h : atriumref17_cut.f k a0 a1 = some (r1, r2, r3)) :
    Calls Tryd.prog 48 #[.string a0, .int .u8 a1] w fun e w' => e = .returned (.tuple #[.string r1, .string r2, .bool r3]) ∧ Drawn0 w w' := by
  have H : (atriumref17_cut.l0 k a0 a1 0) = some (r1, r2, r3) := h
  clear h
  have H' := Aside0.mk H
  clear H
  go_enter Tryd.func48, Tryd.ntmps48
  go_wp2
  repeat (go_quiet (fail); try go_wp2)
  go_loopg [7] k (fun kq v7 w' => ∃ (x7_1 : Int), v7 = .int .i64 x7_1 ∧ Aside0 (atriumref17_cut.l0 kq a0 a1 x7_1 = some (r1, r2, r3)) ∧ Aside0 (kq ≤ k) ∧ Drawn0 w w')
  case atStart => exact ⟨(0), (by first | rfl | (simp; done) | (simp [*]; done) | (simp <;> (generalize ByteArray.toList _ = l_; cases l_ <;> rfl))), H', ⟨Nat.le_refl _⟩, by repeat (first | exact Drawn0.refl _ | apply Drawn0.step)⟩
  case round =>
    clear H'
    try clear p2
    obtain ⟨x7_1, rfl, HA, HK1, ⟨m1, rfl⟩⟩ := hrel
    cases gk with
    | zero => exact absurd HA.out (by simp [atriumref17_cut.l0])
    | succ k1 =>
      have H := HA.out
      clear HA
      simp only [atriumref17_cut.l0] at H
      by_cases c3 : x7_1 < (a0.size : Int)
      · rw [if_pos c3] at H
        have c3b0 : decide (x7_1 < (a0.size : Int)) = true := decide_eq_true c3
        clear c3
        by_cases c4 : 0 ≤ x7_1
        · rw [if_pos c4] at H
          have c4b0 : decide (0 ≤ x7_1) = true := decide_eq_true c4
          clear c4
          by_cases c6 : (bt a0 x7_1) = a1
          · rw [if_pos c6] at H
            have c6b0 : ((bt a0 x7_1) == a1) = true := beq_iff_eq.mpr c6
            have c6b1 : ((bt a0 x7_1) != a1) = false := bne_eq_false_iff_eq.mpr c6
            clear c6
            have c7b0 := eq_true (of_decide_eq_true (by first | (with_reducible assumption) | assumption) : 0 ≤ x7_1)
            by_cases c8 : x7_1 ≤ (a0.size : Int)
            · rw [if_pos c8] at H
              have c8b0 := eq_true c8
              have c8b1 : decide (x7_1 ≤ (a0.size : Int)) = true := decide_eq_true c8
              clear c8
              obtain ⟨ji9, hji9⟩ : ∃ j_ : Int, (wrap64 (x7_1 + 1)) = j_ := ⟨_, rfl⟩
              replace H : (if 0 ≤ (ji9) then (if (ji9) ≤ (a0.size : Int) then (some (a0.extract 0 (x7_1 : Int).toNat, a0.extract ((ji9) : Int).toNat a0.size, true)) else (none)) else (none)) = some (r1, r2, r3) := by first | (rw [hji9] at H; exact H) | (simp only [hji9] at H ⊢; exact H)
              have hji9w : (IntKind.i64.wrap (x7_1 + 1)) = ji9 := (i64_w _).trans hji9
              by_cases c10 : 0 ≤ (ji9)
              · rw [if_pos c10] at H
                have c10b0 := eq_true c10
                have c10b1 : decide (0 ≤ (ji9)) = true := decide_eq_true c10
                clear c10
                by_cases c11 : (ji9) ≤ (a0.size : Int)
                · rw [if_pos c11] at H
                  have c11b0 := eq_true c11
                  have c11b1 : decide ((ji9) ≤ (a0.size : Int)) = true := decide_eq_true c11
                  clear c11
                  simp only [Option.some.injEq, Prod.mk.injEq] at H
                  obtain ⟨rfl, rfl, rfl⟩ := H
                  have p5 : 0 ≤ (x7_1 : Int) := of_decide_eq_true (by first | (with_reducible assumption) | assumption)
                  have q5 : x7_1 < (a0.size : Int) := of_decide_eq_true (by first | (with_reducible assumption) | assumption)
                  have hx5 := bt_at a0 x7_1
                  replace p5 := eq_true p5
                  replace q5 := eq_true q5
                  go_wp2
                  repeat (go_quiet (fail); try go_wp2)
                  go_ret3
                  exact ⟨by first | rfl | (simp; done) | (simp only [← hji9] <;> (first | rfl | simp)) | (simp [*]; done), by repeat (first | exact Drawn0.refl _ | apply Drawn0.step)⟩
                · rw [if_neg c11] at H
                  exact absurd H (by simp)
              · rw [if_neg c10] at H
                exact absurd H (by simp)
            · rw [if_neg c8] at H
              exact absurd H (by simp)
          · rw [if_neg c6] at H
            have c6b0 : ((bt a0 x7_1) == a1) = false := beq_eq_false_iff_ne.mpr c6
            have c6b1 : ((bt a0 x7_1) != a1) = true := bne_iff_ne.mpr c6
            have H' := Aside0.mk H
            clear H
            have p5 : 0 ≤ (x7_1 : Int) := of_decide_eq_true (by first | (with_reducible assumption) | assumption)
            have q5 : x7_1 < (a0.size : Int) := of_decide_eq_true (by first | (with_reducible assumption) | assumption)
            have hx5 := bt_at a0 x7_1
            replace p5 := eq_true p5
            replace q5 := eq_true q5
            go_wp2
            repeat (go_quiet (fail); try go_wp2)
            go_roundg k1
            case measure => have := HK1.out; omega
            case rel => exact ⟨(wrap64 (x7_1 + 1)), (by first | rfl | (simp; done) | (simp [*]; done) | (simp <;> (generalize ByteArray.toList _ = l_; cases l_ <;> rfl))), H', ⟨by have := HK1.out; omega⟩, by repeat (first | exact Drawn0.refl _ | apply Drawn0.step)⟩
        · rw [if_neg c4] at H
          exact absurd H (by simp)
      · rw [if_neg c3] at H
        have c3b0 : decide (x7_1 < (a0.size : Int)) = false := decide_eq_false c3
        clear c3
        simp only [Option.some.injEq, Prod.mk.injEq] at H
        obtain ⟨rfl, rfl, rfl⟩ := H
        go_wp2
        repeat (go_quiet (fail); try go_wp2)
        go_ret3
        exact ⟨by first | rfl | (simp; done) | (simp [*]; done) | (simp <;> (generalize ByteArray.toList _ = l_; cases l_ <;> rfl)), by repeat (first | exact Drawn0.refl _ | apply Drawn0.step)⟩

/-! ### atriumref17_head: function 24 -/
mutual
def atriumref17_head.j0 : Nat → ByteArray → ByteArray → ByteArray → Bool → ByteArray → ByteArray → ByteArray → Bool → Option (ByteArray × ByteArray × (List (S50)) × ByteArray × Bool × Int)
  | 0, _, _, _, _, _, _, _, _ => none
  | k + 1, x6, x8, x11, x57, x215000, x215001, x215003, x215004 => if x57 = true then (some (x215000, x215001, ([] : List (S50)), x215003, x215004, 170)) else (atriumref17_head.l0 k x6 x8 x11 ([] : List (S50)) x215003 x215004)
def atriumref17_head.l0 : Nat → ByteArray → ByteArray → ByteArray → List (S50) → ByteArray → Bool → Option (ByteArray × ByteArray × (List (S50)) × ByteArray × Bool × Int)
  | 0, _, _, _, _, _, _ => none
  | k + 1, x6, x215000, x215001, x215002, x215003, x215004 => (atriumref17_line.f k x6).bind fun bt226 => (if bt226.1.toList = ([] : List UInt8) then ((atriumref17_fields.f k x215000 x215001 x215002 x215003 x215004).bind fun t238 => (if t238 = true then ((atriumref17_closes.f k x215000 x215001 x215002 x215003 x215004).bind fun t239 => (some (x215000, x215001, x215002, x215003, t239, 0))) else (some (x215000, x215001, x215002, x215003, x215004, 170)))) else ((atriumref17_cut.f k bt226.1 58).bind fun bt229 => ((atriumref15_Trim.f k bt229.2.1).bind fun t232 => (if bt229.2.2 = true then ((atriumref15_Token.f k bt229.1).bind fun t233 => (if t233 = true then ((atriumref17_value.f k t232).bind fun t234 => (if t234 = true then (if x215002.length < 4398046511104 then (atriumref17_head.l0 k bt226.2.1 x215000 x215001 (x215002 ++ [(⟨bt229.1, t232⟩ : S50)]) x215003 x215004) else (none)) else (some (x215000, x215001, x215002, x215003, x215004, 170)))) else (some (x215000, x215001, x215002, x215003, x215004, 170)))) else (some (x215000, x215001, x215002, x215003, x215004, 170))))))
end
def atriumref17_head.f (k : Nat) (a0 : ByteArray) : Option (ByteArray × ByteArray × (List (S50)) × ByteArray × Bool × Int) := (atriumref17_line.f k a0).bind fun bt215 => ((atriumref17_cut.f k bt215.1 32).bind fun bt218 => ((atriumref17_cut.f k bt218.2.1 32).bind fun bt221 => (if bt218.2.2 = true then (if bt221.2.2 = true then ((atriumref17_method.f k bt218.1).bind fun t224 => (if t224 = true then ((atriumref17_target.f k bt221.1).bind fun t225 => (if t225 = true then (atriumref17_head.j0 k bt215.2.1 bt218.1 bt221.1 (bt221.2.1.toList != ([72, 84, 84, 80, 47, 49, 46, 49] : List UInt8)) (⟨#[]⟩ : ByteArray) (⟨#[]⟩ : ByteArray) (⟨#[]⟩ : ByteArray) false) else (atriumref17_head.j0 k bt215.2.1 bt218.1 bt221.1 true (⟨#[]⟩ : ByteArray) (⟨#[]⟩ : ByteArray) (⟨#[]⟩ : ByteArray) false))) else (atriumref17_head.j0 k bt215.2.1 bt218.1 bt221.1 true (⟨#[]⟩ : ByteArray) (⟨#[]⟩ : ByteArray) (⟨#[]⟩ : ByteArray) false))) else (atriumref17_head.j0 k bt215.2.1 bt218.1 bt221.1 true (⟨#[]⟩ : ByteArray) (⟨#[]⟩ : ByteArray) (⟨#[]⟩ : ByteArray) false)) else (atriumref17_head.j0 k bt215.2.1 bt218.1 bt221.1 true (⟨#[]⟩ : ByteArray) (⟨#[]⟩ : ByteArray) (⟨#[]⟩ : ByteArray) false))))
theorem atriumref17_head.mono_l : ∀ k, (∀ y0 y1 y2 y3 y4 y5 y6 y7, LeO (atriumref17_head.j0 k y0 y1 y2 y3 y4 y5 y6 y7) (atriumref17_head.j0 (k + 1) y0 y1 y2 y3 y4 y5 y6 y7)) ∧ (∀ y0 y1 y2 y3 y4 y5, LeO (atriumref17_head.l0 k y0 y1 y2 y3 y4 y5) (atriumref17_head.l0 (k + 1) y0 y1 y2 y3 y4 y5))
  | 0 => ⟨fun _ _ _ _ _ _ _ _ r h => by simp [atriumref17_head.j0] at h, fun _ _ _ _ _ _ r h => by simp [atriumref17_head.l0] at h⟩
  | k + 1 => by
    obtain ⟨ih0, ih1⟩ := atriumref17_head.mono_l k
    refine ⟨?_, ?_⟩
    · intro y0 y1 y2 y3 y4 y5 y6 y7
      unfold atriumref17_head.j0
      repeat' first
      | (with_reducible exact ih0 _ _ _ _ _ _ _ _)
      | (with_reducible exact ih1 _ _ _ _ _ _)
      | (with_reducible exact atriumref15_Token.mono _ _)
      | (with_reducible exact atriumref15_Trim.mono _ _)
      | (with_reducible exact atriumref17_closes.mono _ _ _ _ _ _)
      | (with_reducible exact atriumref17_cut.mono _ _ _)
      | (with_reducible exact atriumref17_fields.mono _ _ _ _ _ _)
      | (with_reducible exact atriumref17_line.mono _ _)
      | (with_reducible exact atriumref17_method.mono _ _)
      | (with_reducible exact atriumref17_target.mono _ _)
      | (with_reducible exact atriumref17_value.mono _ _)
      | (with_reducible exact LeO.refl _)
      | (with_reducible exact LeO.none _)
      | (with_reducible refine LeO.ite ?_ ?_)
      | (with_reducible refine LeO.bind ?_ (fun _ => ?_))
      | exact ih0 _ _ _ _ _ _ _ _
      | exact ih1 _ _ _ _ _ _
      | exact atriumref15_Token.mono _ _
      | exact atriumref15_Trim.mono _ _
      | exact atriumref17_closes.mono _ _ _ _ _ _
      | exact atriumref17_cut.mono _ _ _
      | exact atriumref17_fields.mono _ _ _ _ _ _
      | exact atriumref17_line.mono _ _
      | exact atriumref17_method.mono _ _
      | exact atriumref17_target.mono _ _
      | exact atriumref17_value.mono _ _
      | exact LeO.none _
      | refine LeO.ite ?_ ?_
      | refine LeO.bind ?_ (fun _ => ?_)
    · intro y0 y1 y2 y3 y4 y5
      unfold atriumref17_head.l0
      repeat' first
      | (with_reducible exact ih0 _ _ _ _ _ _ _ _)
      | (with_reducible exact ih1 _ _ _ _ _ _)
      | (with_reducible exact atriumref15_Token.mono _ _)
      | (with_reducible exact atriumref15_Trim.mono _ _)
      | (with_reducible exact atriumref17_closes.mono _ _ _ _ _ _)
      | (with_reducible exact atriumref17_cut.mono _ _ _)
      | (with_reducible exact atriumref17_fields.mono _ _ _ _ _ _)
      | (with_reducible exact atriumref17_line.mono _ _)
      | (with_reducible exact atriumref17_method.mono _ _)
      | (with_reducible exact atriumref17_target.mono _ _)
      | (with_reducible exact atriumref17_value.mono _ _)
      | (with_reducible exact LeO.refl _)
      | (with_reducible exact LeO.none _)
      | (with_reducible refine LeO.ite ?_ ?_)
      | (with_reducible refine LeO.bind ?_ (fun _ => ?_))
      | exact ih0 _ _ _ _ _ _ _ _
      | exact ih1 _ _ _ _ _ _
      | exact atriumref15_Token.mono _ _
      | exact atriumref15_Trim.mono _ _
      | exact atriumref17_closes.mono _ _ _ _ _ _
      | exact atriumref17_cut.mono _ _ _
      | exact atriumref17_fields.mono _ _ _ _ _ _
      | exact atriumref17_line.mono _ _
      | exact atriumref17_method.mono _ _
      | exact atriumref17_target.mono _ _
      | exact atriumref17_value.mono _ _
      | exact LeO.none _
      | refine LeO.ite ?_ ?_
      | refine LeO.bind ?_ (fun _ => ?_)
theorem atriumref17_head.mono : ∀ a0 k, LeO (atriumref17_head.f k a0) (atriumref17_head.f (k + 1) a0) := by
  intro a0 k
  obtain ⟨ih0, ih1⟩ := atriumref17_head.mono_l k
  unfold atriumref17_head.f
  repeat' first
      | (with_reducible exact ih0 _ _ _ _ _ _ _ _)
      | (with_reducible exact ih1 _ _ _ _ _ _)
      | (with_reducible exact atriumref15_Token.mono _ _)
      | (with_reducible exact atriumref15_Trim.mono _ _)
      | (with_reducible exact atriumref17_closes.mono _ _ _ _ _ _)
      | (with_reducible exact atriumref17_cut.mono _ _ _)
      | (with_reducible exact atriumref17_fields.mono _ _ _ _ _ _)
      | (with_reducible exact atriumref17_line.mono _ _)
      | (with_reducible exact atriumref17_method.mono _ _)
      | (with_reducible exact atriumref17_target.mono _ _)
      | (with_reducible exact atriumref17_value.mono _ _)
      | (with_reducible exact LeO.refl _)
      | (with_reducible exact LeO.none _)
      | (with_reducible refine LeO.ite ?_ ?_)
      | (with_reducible refine LeO.bind ?_ (fun _ => ?_))
      | exact ih0 _ _ _ _ _ _ _ _
      | exact ih1 _ _ _ _ _ _
      | exact atriumref15_Token.mono _ _
      | exact atriumref15_Trim.mono _ _
      | exact atriumref17_closes.mono _ _ _ _ _ _
      | exact atriumref17_cut.mono _ _ _
      | exact atriumref17_fields.mono _ _ _ _ _ _
      | exact atriumref17_line.mono _ _
      | exact atriumref17_method.mono _ _
      | exact atriumref17_target.mono _ _
      | exact atriumref17_value.mono _ _
      | exact LeO.none _
      | refine LeO.ite ?_ ?_
      | refine LeO.bind ?_ (fun _ => ?_)
set_option maxHeartbeats 8000000 in
set_option maxRecDepth 100000 in
theorem atriumref17_head.calls (k : Nat) (a0 : ByteArray) (r1 : ByteArray) (r2 : ByteArray) (r3 : List (S50)) (r4 : ByteArray) (r5 : Bool) (r6 : Int) (w : World) (h : atriumref17_head.f k a0 = some (r1, r2, r3, r4, r5, r6)) :
    Calls Tryd.prog 24 #[.string a0] w fun e w' => ∃ v2_ : Value, e = .returned (.tuple #[.agg #[.string r1, .string r2, v2_, .string r4, .bool r5], .int .i64 r6]) ∧ Kd.R k50 50 w' w.heap.size (fun _ => True) v2_ r3 ∧ Below w.heap.size w w' := by
  have hu25 := Tryd.underlying25
  have hu50 := Tryd.underlying50
  have HB := Aside0.mk (Below.refl w.heap.size w)
  have H : ((atriumref17_line.f k a0).bind fun bt215 => ((atriumref17_cut.f k bt215.1 32).bind fun bt218 => ((atriumref17_cut.f k bt218.2.1 32).bind fun bt221 => (if bt218.2.2 = true then (if bt221.2.2 = true then ((atriumref17_method.f k bt218.1).bind fun t224 => (if t224 = true then ((atriumref17_target.f k bt221.1).bind fun t225 => (if t225 = true then (atriumref17_head.j0 k bt215.2.1 bt218.1 bt221.1 (bt221.2.1.toList != ([72, 84, 84, 80, 47, 49, 46, 49] : List UInt8)) (⟨#[]⟩ : ByteArray) (⟨#[]⟩ : ByteArray) (⟨#[]⟩ : ByteArray) false) else (atriumref17_head.j0 k bt215.2.1 bt218.1 bt221.1 true (⟨#[]⟩ : ByteArray) (⟨#[]⟩ : ByteArray) (⟨#[]⟩ : ByteArray) false))) else (atriumref17_head.j0 k bt215.2.1 bt218.1 bt221.1 true (⟨#[]⟩ : ByteArray) (⟨#[]⟩ : ByteArray) (⟨#[]⟩ : ByteArray) false))) else (atriumref17_head.j0 k bt215.2.1 bt218.1 bt221.1 true (⟨#[]⟩ : ByteArray) (⟨#[]⟩ : ByteArray) (⟨#[]⟩ : ByteArray) false)) else (atriumref17_head.j0 k bt215.2.1 bt218.1 bt221.1 true (⟨#[]⟩ : ByteArray) (⟨#[]⟩ : ByteArray) (⟨#[]⟩ : ByteArray) false))))) = some (r1, r2, r3, r4, r5, r6) := h
  clear h
  replace H := Option.bind_eq_some_iff.mp H
  obtain ⟨⟨t215, t216, t217⟩, A20, H⟩ := H
  replace H : ((atriumref17_cut.f k t215 32).bind fun bt218 => ((atriumref17_cut.f k bt218.2.1 32).bind fun bt221 => (if bt218.2.2 = true then (if bt221.2.2 = true then ((atriumref17_method.f k bt218.1).bind fun t224 => (if t224 = true then ((atriumref17_target.f k bt221.1).bind fun t225 => (if t225 = true then (atriumref17_head.j0 k t216 bt218.1 bt221.1 (bt221.2.1.toList != ([72, 84, 84, 80, 47, 49, 46, 49] : List UInt8)) (⟨#[]⟩ : ByteArray) (⟨#[]⟩ : ByteArray) (⟨#[]⟩ : ByteArray) false) else (atriumref17_head.j0 k t216 bt218.1 bt221.1 true (⟨#[]⟩ : ByteArray) (⟨#[]⟩ : ByteArray) (⟨#[]⟩ : ByteArray) false))) else (atriumref17_head.j0 k t216 bt218.1 bt221.1 true (⟨#[]⟩ : ByteArray) (⟨#[]⟩ : ByteArray) (⟨#[]⟩ : ByteArray) false))) else (atriumref17_head.j0 k t216 bt218.1 bt221.1 true (⟨#[]⟩ : ByteArray) (⟨#[]⟩ : ByteArray) (⟨#[]⟩ : ByteArray) false)) else (atriumref17_head.j0 k t216 bt218.1 bt221.1 true (⟨#[]⟩ : ByteArray) (⟨#[]⟩ : ByteArray) (⟨#[]⟩ : ByteArray) false)))) = some (r1, r2, r3, r4, r5, r6) := H
  have A2 := Aside0.mk A20
  clear A20
  replace H := Option.bind_eq_some_iff.mp H
  obtain ⟨⟨t218, t219, t220⟩, A30, H⟩ := H
  replace H : ((atriumref17_cut.f k t219 32).bind fun bt221 => (if t220 = true then (if bt221.2.2 = true then ((atriumref17_method.f k t218).bind fun t224 => (if t224 = true then ((atriumref17_target.f k bt221.1).bind fun t225 => (if t225 = true then (atriumref17_head.j0 k t216 t218 bt221.1 (bt221.2.1.toList != ([72, 84, 84, 80, 47, 49, 46, 49] : List UInt8)) (⟨#[]⟩ : ByteArray) (⟨#[]⟩ : ByteArray) (⟨#[]⟩ : ByteArray) false) else (atriumref17_head.j0 k t216 t218 bt221.1 true (⟨#[]⟩ : ByteArray) (⟨#[]⟩ : ByteArray) (⟨#[]⟩ : ByteArray) false))) else (atriumref17_head.j0 k t216 t218 bt221.1 true (⟨#[]⟩ : ByteArray) (⟨#[]⟩ : ByteArray) (⟨#[]⟩ : ByteArray) false))) else (atriumref17_head.j0 k t216 t218 bt221.1 true (⟨#[]⟩ : ByteArray) (⟨#[]⟩ : ByteArray) (⟨#[]⟩ : ByteArray) false)) else (atriumref17_head.j0 k t216 t218 bt221.1 true (⟨#[]⟩ : ByteArray) (⟨#[]⟩ : ByteArray) (⟨#[]⟩ : ByteArray) false))) = some (r1, r2, r3, r4, r5, r6) := H
  have A3 := Aside0.mk A30
  clear A30
  replace H := Option.bind_eq_some_iff.mp H
  obtain ⟨⟨t221, t222, t223⟩, A40, H⟩ := H
  replace H : (if t220 = true then (if t223 = true then ((atriumref17_method.f k t218).bind fun t224 => (if t224 = true then ((atriumref17_target.f k t221).bind fun t225 => (if t225 = true then (atriumref17_head.j0 k t216 t218 t221 (t222.toList != ([72, 84, 84, 80, 47, 49, 46, 49] : List UInt8)) (⟨#[]⟩ : ByteArray) (⟨#[]⟩ : ByteArray) (⟨#[]⟩ : ByteArray) false) else (atriumref17_head.j0 k t216 t218 t221 true (⟨#[]⟩ : ByteArray) (⟨#[]⟩ : ByteArray) (⟨#[]⟩ : ByteArray) false))) else (atriumref17_head.j0 k t216 t218 t221 true (⟨#[]⟩ : ByteArray) (⟨#[]⟩ : ByteArray) (⟨#[]⟩ : ByteArray) false))) else (atriumref17_head.j0 k t216 t218 t221 true (⟨#[]⟩ : ByteArray) (⟨#[]⟩ : ByteArray) (⟨#[]⟩ : ByteArray) false)) else (atriumref17_head.j0 k t216 t218 t221 true (⟨#[]⟩ : ByteArray) (⟨#[]⟩ : ByteArray) (⟨#[]⟩ : ByteArray) false)) = some (r1, r2, r3, r4, r5, r6) := H
  have A4 := Aside0.mk A40
  clear A40
  have HC5 := Aside0.mk H
  clear H
  go_enter Tryd.func24, Tryd.ntmps24
  go_upto_region 5 with (first | ((with_reducible refine gate_dst (N := 2) rfl ?_); refine box_event ?hg (N := 2) ?hd (cs := #[.string (⟨#[]⟩ : ByteArray), .string (⟨#[]⟩ : ByteArray), .slice none 0 0, .string (⟨#[]⟩ : ByteArray), .bool false]) (t := 25) ?hr ?_; (case hd => rfl); (case hg => rfl); (case hr => first | (go_simp; done) | (go_simp; rfl)); intro gb213 hg w6 hbox hb; have n0_ := Aside0.mk (below_step (by repeat (first | (with_reducible first | exact HB.out | apply below_alloc | apply pw_below_drewN | apply below_drew1) | exact HB.out)) hb); have n1_ := Aside0.mk (hbox); have n2_ := Aside0.mk ((by rw [hg]; exact (below_size (by repeat (first | (with_reducible first | exact HB.out | apply below_alloc | apply pw_below_drewN | apply below_drew1) | exact HB.out))) : w.heap.size ≤ gb213)); have n3_ := Aside0.mk ((by rw [hg]; exact (below_size (by repeat (first | (with_reducible first | exact HB.out | apply below_alloc | apply pw_below_drewN | apply below_drew1) | exact HB.out))) : w.heap.size ≤ gb213)); clear HB; have HB := n0_; have BK213 := n1_; have GW213 := n2_; have GE213 := n3_; clear n0_ n1_ n2_ n3_; clear hb hbox hg) | ((with_reducible refine gate_dst (N := 4) rfl ?_); refine box_event ?hg (N := 4) ?hd (cs := #[.string (⟨#[]⟩ : ByteArray), .string (⟨#[]⟩ : ByteArray), .slice none 0 0, .string (⟨#[]⟩ : ByteArray), .bool false]) (t := 25) ?hr ?_; (case hd => rfl); (case hg => rfl); (case hr => first | (go_simp; done) | (go_simp; rfl)); intro gb214 hg w7 hbox hb; have n0_ := Aside0.mk (blk_below (g := gb213) (o := .cells #[.string (⟨#[]⟩ : ByteArray), .string (⟨#[]⟩ : ByteArray), .slice none 0 0, .string (⟨#[]⟩ : ByteArray), .bool false] 25 (0, 0)) (by (with_reducible repeat (first | refine blk_drewN ?_ _ | refine blk_drew ?_ | refine blk_alloc ?_ _)); exact BK213.out) hb); have n1_ := Aside0.mk (below_step (by repeat (first | (with_reducible first | exact HB.out | apply below_alloc | apply pw_below_drewN | apply below_drew1 | refine below_set ?_ GE213.out) | exact HB.out)) hb); have n2_ := Aside0.mk (hbox); have n3_ := Aside0.mk ((by rw [hg]; exact (below_size (by repeat (first | (with_reducible first | exact HB.out | apply below_alloc | apply pw_below_drewN | apply below_drew1 | refine below_set ?_ GE213.out) | exact HB.out))) : w.heap.size ≤ gb214)); have n4_ := Aside0.mk ((by rw [hg]; exact (below_size (by repeat (first | (with_reducible first | exact HB.out | apply below_alloc | apply pw_below_drewN | apply below_drew1 | refine below_set ?_ GE213.out) | exact HB.out))) : w.heap.size ≤ gb214)); have n5_ := Aside0.mk ((by rw [hg]; exact Nat.ne_of_lt (blk_lt (g := gb213) (o := .cells #[.string (⟨#[]⟩ : ByteArray), .string (⟨#[]⟩ : ByteArray), .slice none 0 0, .string (⟨#[]⟩ : ByteArray), .bool false] 25 (0, 0)) (by (with_reducible repeat (first | refine blk_drewN ?_ _ | refine blk_drew ?_ | refine blk_alloc ?_ _)); exact BK213.out)) : gb213 ≠ gb214)); have n6_ := Aside0.mk ((by rw [hg]; exact Nat.ne_of_gt (blk_lt (g := gb213) (o := .cells #[.string (⟨#[]⟩ : ByteArray), .string (⟨#[]⟩ : ByteArray), .slice none 0 0, .string (⟨#[]⟩ : ByteArray), .bool false] 25 (0, 0)) (by (with_reducible repeat (first | refine blk_drewN ?_ _ | refine blk_drew ?_ | refine blk_alloc ?_ _)); exact BK213.out)) : gb214 ≠ gb213)); clear BK213; clear HB; have BK213 := n0_; have HB := n1_; have BK214 := n2_; have GW214 := n3_; have GE214 := n4_; have NB213_214 := n5_; have NB214_213 := n6_; clear n0_ n1_ n2_ n3_ n4_ n5_ n6_; clear hb hbox hg) | ((with_reducible refine gate_callee (f := 47) rfl ?_); refine goesL_ (some 22) rfl rfl Tryd.func47 (by kernel_rfl) rfl #[.string a0] rfl (by (try simp only [List.map_toArray, List.map_cons, List.map_nil]); first | done | rfl | (simp only [List.length_drop, List.length_take]; rfl)) ?_; (with_reducible refine (atriumref17_line.calls k a0 t215 t216 t217 _ A2.out).mono ?_); rintro e w' ⟨rfl, ⟨nd, rfl⟩⟩; refine ⟨_, rfl, ?_⟩) | ((with_reducible refine gate_callee (f := 48) rfl ?_); refine goesL_ (some 28) rfl rfl Tryd.func48 (by kernel_rfl) rfl #[.string t215, .int .u8 32] rfl (by (try simp only [List.map_toArray, List.map_cons, List.map_nil]); first | done | rfl | (simp only [List.length_drop, List.length_take]; rfl)) ?_; (with_reducible refine (atriumref17_cut.calls k t215 32 t218 t219 t220 _ A3.out).mono ?_); rintro e w' ⟨rfl, ⟨nd, rfl⟩⟩; refine ⟨_, rfl, ?_⟩) | ((with_reducible refine gate_callee (f := 48) rfl ?_); refine goesL_ (some 34) rfl rfl Tryd.func48 (by kernel_rfl) rfl #[.string t219, .int .u8 32] rfl (by (try simp only [List.map_toArray, List.map_cons, List.map_nil]); first | done | rfl | (simp only [List.length_drop, List.length_take]; rfl)) ?_; (with_reducible refine (atriumref17_cut.calls k t219 32 t221 t222 t223 _ A4.out).mono ?_); rintro e w' ⟨rfl, ⟨nd, rfl⟩⟩; refine ⟨_, rfl, ?_⟩))
  (try simp only [Act.put, List.setIfInBounds_toArray, List.set_cons_zero, List.set_cons_succ])
  go_cut [57] (fun v57 wc => ∃ (kq : Nat) (x57_4 : Bool), v57 = .bool x57_4 ∧ Aside0 (atriumref17_head.j0 kq t216 t218 t221 x57_4 (⟨#[]⟩ : ByteArray) (⟨#[]⟩ : ByteArray) (⟨#[]⟩ : ByteArray) false = some (r1, r2, r3, r4, r5, r6)) ∧ Aside0 (kq ≤ k) ∧ Aside0 (wc.heap[gb213]? = some (.cells #[.string (⟨#[]⟩ : ByteArray), .string (⟨#[]⟩ : ByteArray), (.slice none 0 0), .string (⟨#[]⟩ : ByteArray), .bool false] 25 (0, 0))) ∧ Aside0 (wc.heap[gb214]? = some (.cells #[.string (⟨#[]⟩ : ByteArray), .string (⟨#[]⟩ : ByteArray), (.slice none 0 0), .string (⟨#[]⟩ : ByteArray), .bool false] 25 (0, 0))) ∧ Aside0 (Below w.heap.size w wc))
  case first =>
    have H := HC5.out
    clear HC5
    by_cases c8 : t220 = true
    · subst c8
      have H1 : (if t223 = true then ((atriumref17_method.f k t218).bind fun t224 => (if t224 = true then ((atriumref17_target.f k t221).bind fun t225 => (if t225 = true then (atriumref17_head.j0 k t216 t218 t221 (t222.toList != ([72, 84, 84, 80, 47, 49, 46, 49] : List UInt8)) (⟨#[]⟩ : ByteArray) (⟨#[]⟩ : ByteArray) (⟨#[]⟩ : ByteArray) false) else (atriumref17_head.j0 k t216 t218 t221 true (⟨#[]⟩ : ByteArray) (⟨#[]⟩ : ByteArray) (⟨#[]⟩ : ByteArray) false))) else (atriumref17_head.j0 k t216 t218 t221 true (⟨#[]⟩ : ByteArray) (⟨#[]⟩ : ByteArray) (⟨#[]⟩ : ByteArray) false))) else (atriumref17_head.j0 k t216 t218 t221 true (⟨#[]⟩ : ByteArray) (⟨#[]⟩ : ByteArray) (⟨#[]⟩ : ByteArray) false)) = some (r1, r2, r3, r4, r5, r6) := by rw [if_pos rfl] at H; exact H
      clear H
      have H := H1
      clear H1
      by_cases c9 : t223 = true
      · subst c9
        have H1 : ((atriumref17_method.f k t218).bind fun t224 => (if t224 = true then ((atriumref17_target.f k t221).bind fun t225 => (if t225 = true then (atriumref17_head.j0 k t216 t218 t221 (t222.toList != ([72, 84, 84, 80, 47, 49, 46, 49] : List UInt8)) (⟨#[]⟩ : ByteArray) (⟨#[]⟩ : ByteArray) (⟨#[]⟩ : ByteArray) false) else (atriumref17_head.j0 k t216 t218 t221 true (⟨#[]⟩ : ByteArray) (⟨#[]⟩ : ByteArray) (⟨#[]⟩ : ByteArray) false))) else (atriumref17_head.j0 k t216 t218 t221 true (⟨#[]⟩ : ByteArray) (⟨#[]⟩ : ByteArray) (⟨#[]⟩ : ByteArray) false))) = some (r1, r2, r3, r4, r5, r6) := by rw [if_pos rfl] at H; exact H
        clear H
        have H := H1
        clear H1
        replace H := Option.bind_eq_some_iff.mp H
        obtain ⟨t224, A100, H⟩ := H
        replace H : (if t224 = true then ((atriumref17_target.f k t221).bind fun t225 => (if t225 = true then (atriumref17_head.j0 k t216 t218 t221 (t222.toList != ([72, 84, 84, 80, 47, 49, 46, 49] : List UInt8)) (⟨#[]⟩ : ByteArray) (⟨#[]⟩ : ByteArray) (⟨#[]⟩ : ByteArray) false) else (atriumref17_head.j0 k t216 t218 t221 true (⟨#[]⟩ : ByteArray) (⟨#[]⟩ : ByteArray) (⟨#[]⟩ : ByteArray) false))) else (atriumref17_head.j0 k t216 t218 t221 true (⟨#[]⟩ : ByteArray) (⟨#[]⟩ : ByteArray) (⟨#[]⟩ : ByteArray) false)) = some (r1, r2, r3, r4, r5, r6) := H
        have A10 := Aside0.mk A100
        clear A100
        by_cases c11 : t224 = true
        · subst c11
          have H1 : ((atriumref17_target.f k t221).bind fun t225 => (if t225 = true then (atriumref17_head.j0 k t216 t218 t221 (t222.toList != ([72, 84, 84, 80, 47, 49, 46, 49] : List UInt8)) (⟨#[]⟩ : ByteArray) (⟨#[]⟩ : ByteArray) (⟨#[]⟩ : ByteArray) false) else (atriumref17_head.j0 k t216 t218 t221 true (⟨#[]⟩ : ByteArray) (⟨#[]⟩ : ByteArray) (⟨#[]⟩ : ByteArray) false))) = some (r1, r2, r3, r4, r5, r6) := by rw [if_pos rfl] at H; exact H
          clear H
          have H := H1
          clear H1
          replace H := Option.bind_eq_some_iff.mp H
          obtain ⟨t225, A120, H⟩ := H
          replace H : (if t225 = true then (atriumref17_head.j0 k t216 t218 t221 (t222.toList != ([72, 84, 84, 80, 47, 49, 46, 49] : List UInt8)) (⟨#[]⟩ : ByteArray) (⟨#[]⟩ : ByteArray) (⟨#[]⟩ : ByteArray) false) else (atriumref17_head.j0 k t216 t218 t221 true (⟨#[]⟩ : ByteArray) (⟨#[]⟩ : ByteArray) (⟨#[]⟩ : ByteArray) false)) = some (r1, r2, r3, r4, r5, r6) := H
          have A12 := Aside0.mk A120
          clear A120
          by_cases c13 : t225 = true
          · subst c13
            have H1 : (atriumref17_head.j0 k t216 t218 t221 (t222.toList != ([72, 84, 84, 80, 47, 49, 46, 49] : List UInt8)) (⟨#[]⟩ : ByteArray) (⟨#[]⟩ : ByteArray) (⟨#[]⟩ : ByteArray) false) = some (r1, r2, r3, r4, r5, r6) := by rw [if_pos rfl] at H; exact H
            clear H
            have H := H1
            clear H1
            have H' := Aside0.mk H
            clear H
            go_wp2_with (first | (go_at_call 36; (with_reducible refine (atriumref17_method.calls k t218 true _ A10.out).mono ?_); rintro e w' ⟨rfl, ⟨nd, rfl⟩⟩) | (go_at_call 37; (with_reducible refine (atriumref17_target.calls k t221 true _ A12.out).mono ?_); rintro e w' ⟨rfl, ⟨nd, rfl⟩⟩))
            go_meet
            case rel => exact ⟨_, ((t222.toList != ([72, 84, 84, 80, 47, 49, 46, 49] : List UInt8))), (by first | rfl | (simp; done) | (simp [*]; done) | (simp <;> (generalize ByteArray.toList _ = l_; cases l_ <;> rfl))), H', ⟨by first | omega | exact Nat.le_refl _⟩, ⟨by (with_reducible repeat (first | refine blk_drewN ?_ _ | refine blk_drew ?_ | refine blk_alloc ?_ _)); exact BK213.out⟩, ⟨by (with_reducible repeat (first | refine blk_drewN ?_ _ | refine blk_drew ?_ | refine blk_alloc ?_ _)); exact BK214.out⟩, ⟨by repeat (first | (with_reducible first | exact HB.out | apply below_alloc | apply pw_below_drewN | apply below_drew1 | refine below_set ?_ GE213.out | refine below_set ?_ GE214.out) | exact HB.out)⟩⟩
          · replace c13 := Bool.eq_false_iff.mpr c13
            subst c13
            have H1 : (atriumref17_head.j0 k t216 t218 t221 true (⟨#[]⟩ : ByteArray) (⟨#[]⟩ : ByteArray) (⟨#[]⟩ : ByteArray) false) = some (r1, r2, r3, r4, r5, r6) := by rw [if_neg (show ¬ (false = true) by decide)] at H; exact H
            clear H
            have H := H1
            clear H1
            have H' := Aside0.mk H
            clear H
            go_wp2_with (first | (go_at_call 36; (with_reducible refine (atriumref17_method.calls k t218 true _ A10.out).mono ?_); rintro e w' ⟨rfl, ⟨nd, rfl⟩⟩) | (go_at_call 37; (with_reducible refine (atriumref17_target.calls k t221 false _ A12.out).mono ?_); rintro e w' ⟨rfl, ⟨nd, rfl⟩⟩))
            go_meet
            case rel => exact ⟨_, (true), (by first | rfl | (simp; done) | (simp [*]; done) | (simp <;> (generalize ByteArray.toList _ = l_; cases l_ <;> rfl))), H', ⟨by first | omega | exact Nat.le_refl _⟩, ⟨by (with_reducible repeat (first | refine blk_drewN ?_ _ | refine blk_drew ?_ | refine blk_alloc ?_ _)); exact BK213.out⟩, ⟨by (with_reducible repeat (first | refine blk_drewN ?_ _ | refine blk_drew ?_ | refine blk_alloc ?_ _)); exact BK214.out⟩, ⟨by repeat (first | (with_reducible first | exact HB.out | apply below_alloc | apply pw_below_drewN | apply below_drew1 | refine below_set ?_ GE213.out | refine below_set ?_ GE214.out) | exact HB.out)⟩⟩
        · replace c11 := Bool.eq_false_iff.mpr c11
          subst c11
          have H1 : (atriumref17_head.j0 k t216 t218 t221 true (⟨#[]⟩ : ByteArray) (⟨#[]⟩ : ByteArray) (⟨#[]⟩ : ByteArray) false) = some (r1, r2, r3, r4, r5, r6) := by rw [if_neg (show ¬ (false = true) by decide)] at H; exact H
          clear H
          have H := H1
          clear H1
          have H' := Aside0.mk H
          clear H
          go_wp2_with (first | (go_at_call 36; (with_reducible refine (atriumref17_method.calls k t218 false _ A10.out).mono ?_); rintro e w' ⟨rfl, ⟨nd, rfl⟩⟩))
          go_meet
          case rel => exact ⟨_, (true), (by first | rfl | (simp; done) | (simp [*]; done) | (simp <;> (generalize ByteArray.toList _ = l_; cases l_ <;> rfl))), H', ⟨by first | omega | exact Nat.le_refl _⟩, ⟨by (with_reducible repeat (first | refine blk_drewN ?_ _ | refine blk_drew ?_ | refine blk_alloc ?_ _)); exact BK213.out⟩, ⟨by (with_reducible repeat (first | refine blk_drewN ?_ _ | refine blk_drew ?_ | refine blk_alloc ?_ _)); exact BK214.out⟩, ⟨by repeat (first | (with_reducible first | exact HB.out | apply below_alloc | apply pw_below_drewN | apply below_drew1 | refine below_set ?_ GE213.out | refine below_set ?_ GE214.out) | exact HB.out)⟩⟩
      · replace c9 := Bool.eq_false_iff.mpr c9
        subst c9
        have H1 : (atriumref17_head.j0 k t216 t218 t221 true (⟨#[]⟩ : ByteArray) (⟨#[]⟩ : ByteArray) (⟨#[]⟩ : ByteArray) false) = some (r1, r2, r3, r4, r5, r6) := by rw [if_neg (show ¬ (false = true) by decide)] at H; exact H
        clear H
        have H := H1
        clear H1
        have H' := Aside0.mk H
        clear H
        go_wp2
        go_meet
        case rel => exact ⟨_, (true), (by first | rfl | (simp; done) | (simp [*]; done) | (simp <;> (generalize ByteArray.toList _ = l_; cases l_ <;> rfl))), H', ⟨by first | omega | exact Nat.le_refl _⟩, ⟨by (with_reducible repeat (first | refine blk_drewN ?_ _ | refine blk_drew ?_ | refine blk_alloc ?_ _)); exact BK213.out⟩, ⟨by (with_reducible repeat (first | refine blk_drewN ?_ _ | refine blk_drew ?_ | refine blk_alloc ?_ _)); exact BK214.out⟩, ⟨by repeat (first | (with_reducible first | exact HB.out | apply below_alloc | apply pw_below_drewN | apply below_drew1 | refine below_set ?_ GE213.out | refine below_set ?_ GE214.out) | exact HB.out)⟩⟩
    · replace c8 := Bool.eq_false_iff.mpr c8
      subst c8
      have H1 : (atriumref17_head.j0 k t216 t218 t221 true (⟨#[]⟩ : ByteArray) (⟨#[]⟩ : ByteArray) (⟨#[]⟩ : ByteArray) false) = some (r1, r2, r3, r4, r5, r6) := by rw [if_neg (show ¬ (false = true) by decide)] at H; exact H
      clear H
      have H := H1
      clear H1
      have H' := Aside0.mk H
      clear H
      go_wp2
      go_meet
      case rel => exact ⟨_, (true), (by first | rfl | (simp; done) | (simp [*]; done) | (simp <;> (generalize ByteArray.toList _ = l_; cases l_ <;> rfl))), H', ⟨by first | omega | exact Nat.le_refl _⟩, ⟨by (with_reducible repeat (first | refine blk_drewN ?_ _ | refine blk_drew ?_ | refine blk_alloc ?_ _)); exact BK213.out⟩, ⟨by (with_reducible repeat (first | refine blk_drewN ?_ _ | refine blk_drew ?_ | refine blk_alloc ?_ _)); exact BK214.out⟩, ⟨by repeat (first | (with_reducible first | exact HB.out | apply below_alloc | apply pw_below_drewN | apply below_drew1 | refine below_set ?_ GE213.out | refine below_set ?_ GE214.out) | exact HB.out)⟩⟩
  case rest =>
    clear HC5
    try clear c1
    try clear c2
    try clear p2
    try clear c4
    try clear c8
    try clear c9
    try clear c11
    try clear c13
    obtain ⟨kq, x57_4, rfl, HA, HJ4, BK213, BK214, HB⟩ := hcut
    cases kq with
    | zero => exact absurd HA.out (by simp [atriumref17_head.j0])
    | succ kj4 =>
      have H := HA.out
      clear HA
      simp only [atriumref17_head.j0] at H
      by_cases c14 : x57_4 = true
      · subst c14
        have H1 : (some ((⟨#[]⟩ : ByteArray), (⟨#[]⟩ : ByteArray), ([] : List (S50)), (⟨#[]⟩ : ByteArray), false, 170)) = some (r1, r2, r3, r4, r5, r6) := by rw [if_pos rfl] at H; exact H
        clear H
        have H := H1
        clear H1
        simp only [Option.some.injEq, Prod.mk.injEq] at H
        obtain ⟨rfl, rfl, rfl, rfl, rfl, rfl⟩ := H
        have hnb15 := NB214_213.out
        have hnc15 := NB213_214.out
        have hcz16_0 : wc.cell? ⟨gb214, 0, none⟩ = some (.string (⟨#[]⟩ : ByteArray)) := (blk_cell BK214.out 0).trans rfl
        have hcz16_1 : wc.cell? ⟨gb214, 1, none⟩ = some (.string (⟨#[]⟩ : ByteArray)) := (blk_cell BK214.out 1).trans rfl
        have hcz16_2 : wc.cell? ⟨gb214, 2, none⟩ = some (.slice none 0 0) := (blk_cell BK214.out 2).trans rfl
        have hcz16_3 : wc.cell? ⟨gb214, 3, none⟩ = some (.string (⟨#[]⟩ : ByteArray)) := (blk_cell BK214.out 3).trans rfl
        have hcz16_4 : wc.cell? ⟨gb214, 4, none⟩ = some (.bool false) := (blk_cell BK214.out 4).trans rfl
        have hfz16_0 := blk_frozen BK214.out 0
        have hfz16_1 := blk_frozen BK214.out 1
        have hfz16_2 := blk_frozen BK214.out 2
        have hfz16_3 := blk_frozen BK214.out 3
        have hfz16_4 := blk_frozen BK214.out 4
        have hcz17_0 : wc.cell? ⟨gb213, 0, none⟩ = some (.string (⟨#[]⟩ : ByteArray)) := (blk_cell BK213.out 0).trans rfl
        have hcz17_1 : wc.cell? ⟨gb213, 1, none⟩ = some (.string (⟨#[]⟩ : ByteArray)) := (blk_cell BK213.out 1).trans rfl
        have hcz17_2 : wc.cell? ⟨gb213, 2, none⟩ = some (.slice none 0 0) := (blk_cell BK213.out 2).trans rfl
        have hcz17_3 : wc.cell? ⟨gb213, 3, none⟩ = some (.string (⟨#[]⟩ : ByteArray)) := (blk_cell BK213.out 3).trans rfl
        have hcz17_4 : wc.cell? ⟨gb213, 4, none⟩ = some (.bool false) := (blk_cell BK213.out 4).trans rfl
        have hfz17_0 := blk_frozen BK213.out 0
        have hfz17_1 := blk_frozen BK213.out 1
        have hfz17_2 := blk_frozen BK213.out 2
        have hfz17_3 := blk_frozen BK213.out 3
        have hfz17_4 := blk_frozen BK213.out 4
        go_wp2
        refine bodyPost_ret (results_ct rfl _ _ gb213 25 #[.string (⟨#[]⟩ : ByteArray), .string (⟨#[]⟩ : ByteArray), .slice none 0 0, .string (⟨#[]⟩ : ByteArray), .bool false] (0, 0) _ rfl (by (with_reducible repeat (first | refine blk_drewN ?_ _ | refine blk_drew ?_ | refine blk_alloc ?_ _)); refine blk_put (cs := #[.string (⟨#[]⟩ : ByteArray), .string (⟨#[]⟩ : ByteArray), .slice none 0 0, .string (⟨#[]⟩ : ByteArray), .bool false]) ?_ 4 _ rfl; (with_reducible repeat (first | refine blk_drewN ?_ _ | refine blk_drew ?_ | refine blk_alloc ?_ _)); refine blk_put (cs := #[.string (⟨#[]⟩ : ByteArray), .string (⟨#[]⟩ : ByteArray), .slice none 0 0, .string (⟨#[]⟩ : ByteArray), .bool false]) ?_ 3 _ rfl; (with_reducible repeat (first | refine blk_drewN ?_ _ | refine blk_drew ?_ | refine blk_alloc ?_ _)); refine blk_put (cs := #[.string (⟨#[]⟩ : ByteArray), .string (⟨#[]⟩ : ByteArray), .slice none 0 0, .string (⟨#[]⟩ : ByteArray), .bool false]) ?_ 2 _ rfl; (with_reducible repeat (first | refine blk_drewN ?_ _ | refine blk_drew ?_ | refine blk_alloc ?_ _)); refine blk_put (cs := #[.string (⟨#[]⟩ : ByteArray), .string (⟨#[]⟩ : ByteArray), .slice none 0 0, .string (⟨#[]⟩ : ByteArray), .bool false]) ?_ 1 _ rfl; (with_reducible repeat (first | refine blk_drewN ?_ _ | refine blk_drew ?_ | refine blk_alloc ?_ _)); refine blk_put (cs := #[.string (⟨#[]⟩ : ByteArray), .string (⟨#[]⟩ : ByteArray), .slice none 0 0, .string (⟨#[]⟩ : ByteArray), .bool false]) ?_ 0 _ rfl; (with_reducible repeat (first | refine blk_drewN ?_ _ | refine blk_drew ?_ | refine blk_alloc ?_ _)); exact BK213.out) Tryd.underlying25 rfl (by kernel_rfl)) rfl ?_
        exact ⟨_, by first | rfl | (simp [errW_none, errW_some] <;> rfl) | (simp [*, errW_none, errW_some] <;> rfl), by first | exact Kd.R_nil _ _ _ _ _ | exact Kd.N_nil _ _ _ _ _ | exact Kd.V_nil _ _ _ _ _ | exact Kd.Q_nil _ _ _ _ _ | exact Kd.S_nil _ _ _ _ _, by repeat (first | (with_reducible first | exact HB.out | apply below_alloc | apply pw_below_drewN | apply below_drew1 | refine below_set ?_ GE213.out | refine below_set ?_ GE214.out) | exact HB.out)⟩
      · replace c14 := Bool.eq_false_iff.mpr c14
        subst c14
        have H1 : (atriumref17_head.l0 kj4 t216 t218 t221 ([] : List (S50)) (⟨#[]⟩ : ByteArray) false) = some (r1, r2, r3, r4, r5, r6) := by rw [if_neg (show ¬ (false = true) by decide)] at H; exact H
        clear H
        have H := H1
        clear H1
        have H' := Aside0.mk H
        clear H
        have hnb18 := NB214_213.out
        have hnc18 := NB213_214.out
        have hcz19_0 : wc.cell? ⟨gb214, 0, none⟩ = some (.string (⟨#[]⟩ : ByteArray)) := (blk_cell BK214.out 0).trans rfl
        have hcz19_1 : wc.cell? ⟨gb214, 1, none⟩ = some (.string (⟨#[]⟩ : ByteArray)) := (blk_cell BK214.out 1).trans rfl
        have hcz19_2 : wc.cell? ⟨gb214, 2, none⟩ = some (.slice none 0 0) := (blk_cell BK214.out 2).trans rfl
        have hcz19_3 : wc.cell? ⟨gb214, 3, none⟩ = some (.string (⟨#[]⟩ : ByteArray)) := (blk_cell BK214.out 3).trans rfl
        have hcz19_4 : wc.cell? ⟨gb214, 4, none⟩ = some (.bool false) := (blk_cell BK214.out 4).trans rfl
        have hfz19_0 := blk_frozen BK214.out 0
        have hfz19_1 := blk_frozen BK214.out 1
        have hfz19_2 := blk_frozen BK214.out 2
        have hfz19_3 := blk_frozen BK214.out 3
        have hfz19_4 := blk_frozen BK214.out 4
        go_wp2
        go_loopg [6] kj4 (fun kq v6 w' => ∃ (x6_2 : ByteArray) (x214000_2 : ByteArray) (x214001_2 : ByteArray) (x214003_2 : ByteArray) (x214004_2 : Bool) (x215002_2 : List (S50)) (u215002 : Value), v6 = .string x6_2 ∧ Aside0 (atriumref17_head.l0 kq x6_2 t218 t221 x215002_2 (⟨#[]⟩ : ByteArray) false = some (r1, r2, r3, r4, r5, r6)) ∧ Aside0 (kq ≤ kj4) ∧ Aside0 (Kd.R k50 50 w' w.heap.size (fun _ => True) u215002 x215002_2) ∧ Aside0 (w'.heap[gb213]? = some (.cells #[.string x214000_2, .string x214001_2, (.slice none 0 0), .string x214003_2, .bool x214004_2] 25 (0, 0))) ∧ Aside0 (w'.heap[gb214]? = some (.cells #[.string t218, .string t221, u215002, .string (⟨#[]⟩ : ByteArray), .bool false] 25 (0, 0))) ∧ Aside0 (Below w.heap.size w w'))
        case atStart => exact ⟨(t216), ((⟨#[]⟩ : ByteArray)), ((⟨#[]⟩ : ByteArray)), ((⟨#[]⟩ : ByteArray)), (false), (([] : List (S50))), (.slice none 0 0), (by first | rfl | (simp; done) | (simp [*]; done) | (simp <;> (generalize ByteArray.toList _ = l_; cases l_ <;> rfl))), H', ⟨Nat.le_refl _⟩, ⟨by first | exact Kd.R_nil _ _ _ _ _ | exact Kd.N_nil _ _ _ _ _ | exact Kd.V_nil _ _ _ _ _ | exact Kd.Q_nil _ _ _ _ _ | exact Kd.S_nil _ _ _ _ _⟩, ⟨by (with_reducible repeat (first | refine blk_drewN ?_ _ | refine blk_drew ?_ | refine blk_alloc ?_ _)); refine blk_far ?_ NB213_214.out _; (with_reducible repeat (first | refine blk_drewN ?_ _ | refine blk_drew ?_ | refine blk_alloc ?_ _)); refine blk_far ?_ NB213_214.out _; (with_reducible repeat (first | refine blk_drewN ?_ _ | refine blk_drew ?_ | refine blk_alloc ?_ _)); exact BK213.out⟩, ⟨by (with_reducible repeat (first | refine blk_drewN ?_ _ | refine blk_drew ?_ | refine blk_alloc ?_ _)); refine blk_put (cs := #[.string t218, .string (⟨#[]⟩ : ByteArray), .slice none 0 0, .string (⟨#[]⟩ : ByteArray), .bool false]) ?_ 1 _ rfl; (with_reducible repeat (first | refine blk_drewN ?_ _ | refine blk_drew ?_ | refine blk_alloc ?_ _)); refine blk_put (cs := #[.string (⟨#[]⟩ : ByteArray), .string (⟨#[]⟩ : ByteArray), .slice none 0 0, .string (⟨#[]⟩ : ByteArray), .bool false]) ?_ 0 _ rfl; (with_reducible repeat (first | refine blk_drewN ?_ _ | refine blk_drew ?_ | refine blk_alloc ?_ _)); exact BK214.out⟩, ⟨by repeat (first | (with_reducible first | exact HB.out | apply below_alloc | apply pw_below_drewN | apply below_drew1 | refine below_set ?_ GE213.out | refine below_set ?_ GE214.out) | exact HB.out)⟩⟩
        case round =>
          clear H'
          try clear c1
          try clear c2
          try clear p2
          try clear c4
          try clear c8
          try clear c9
          try clear c11
          try clear c13
          try clear c14
          try clear c15
          try clear c18
          try clear hcz16_0
          try clear hcz16_1
          try clear hcz16_2
          try clear hcz16_3
          try clear hcz16_4
          try clear hcz17_0
          try clear hcz17_1
          try clear hcz17_2
          try clear hcz17_3
          try clear hcz17_4
          try clear hcz19_0
          try clear hcz19_1
          try clear hcz19_2
          try clear hcz19_3
          try clear hcz19_4
          try clear hfz16_0
          try clear hfz16_1
          try clear hfz16_2
          try clear hfz16_3
          try clear hfz16_4
          try clear hfz17_0
          try clear hfz17_1
          try clear hfz17_2
          try clear hfz17_3
          try clear hfz17_4
          try clear hfz19_0
          try clear hfz19_1
          try clear hfz19_2
          try clear hfz19_3
          try clear hfz19_4
          try clear p2
          obtain ⟨x6_2, x214000_2, x214001_2, x214003_2, x214004_2, x215002_2, u215002, rfl, HA, HK2, HO_215002, BK213, BK214, HB⟩ := hrel
          cases gk with
          | zero => exact absurd HA.out (by simp [atriumref17_head.l0])
          | succ k2 =>
            have H := HA.out
            clear HA
            simp only [atriumref17_head.l0] at H
            replace H := Option.bind_eq_some_iff.mp H
            obtain ⟨⟨t226, t227, t228⟩, A200, H⟩ := H
            replace H : (if t226.toList = ([] : List UInt8) then ((atriumref17_fields.f k2 t218 t221 x215002_2 (⟨#[]⟩ : ByteArray) false).bind fun t238 => (if t238 = true then ((atriumref17_closes.f k2 t218 t221 x215002_2 (⟨#[]⟩ : ByteArray) false).bind fun t239 => (some (t218, t221, x215002_2, (⟨#[]⟩ : ByteArray), t239, 0))) else (some (t218, t221, x215002_2, (⟨#[]⟩ : ByteArray), false, 170)))) else ((atriumref17_cut.f k2 t226 58).bind fun bt229 => ((atriumref15_Trim.f k2 bt229.2.1).bind fun t232 => (if bt229.2.2 = true then ((atriumref15_Token.f k2 bt229.1).bind fun t233 => (if t233 = true then ((atriumref17_value.f k2 t232).bind fun t234 => (if t234 = true then (if x215002_2.length < 4398046511104 then (atriumref17_head.l0 k2 t227 t218 t221 (x215002_2 ++ [(⟨bt229.1, t232⟩ : S50)]) (⟨#[]⟩ : ByteArray) false) else (none)) else (some (t218, t221, x215002_2, (⟨#[]⟩ : ByteArray), false, 170)))) else (some (t218, t221, x215002_2, (⟨#[]⟩ : ByteArray), false, 170)))) else (some (t218, t221, x215002_2, (⟨#[]⟩ : ByteArray), false, 170)))))) = some (r1, r2, r3, r4, r5, r6) := H
            have A20 := Aside0.mk A200
            clear A200
            by_cases c21 : t226.toList = ([] : List UInt8)
            · rw [if_pos c21] at H
              have c21b0 : (t226.toList == ([] : List UInt8)) = true := beq_iff_eq.mpr c21
              have c21b1 : (t226.toList != ([] : List UInt8)) = false := bne_eq_false_iff_eq.mpr c21
              have c21b5 : t226.toList.isEmpty = true := List.isEmpty_iff.mpr (beq_iff_eq.mp c21b0)
              clear c21
              replace H := Option.bind_eq_some_iff.mp H
              obtain ⟨t238, A220, H⟩ := H
              replace H : (if t238 = true then ((atriumref17_closes.f k2 t218 t221 x215002_2 (⟨#[]⟩ : ByteArray) false).bind fun t239 => (some (t218, t221, x215002_2, (⟨#[]⟩ : ByteArray), t239, 0))) else (some (t218, t221, x215002_2, (⟨#[]⟩ : ByteArray), false, 170))) = some (r1, r2, r3, r4, r5, r6) := H
              have A22 := Aside0.mk A220
              clear A220
              by_cases c23 : t238 = true
              · subst c23
                have H1 : ((atriumref17_closes.f k2 t218 t221 x215002_2 (⟨#[]⟩ : ByteArray) false).bind fun t239 => (some (t218, t221, x215002_2, (⟨#[]⟩ : ByteArray), t239, 0))) = some (r1, r2, r3, r4, r5, r6) := by rw [if_pos rfl] at H; exact H
                clear H
                have H := H1
                clear H1
                replace H := Option.bind_eq_some_iff.mp H
                obtain ⟨t239, A240, H⟩ := H
                replace H : (some (t218, t221, x215002_2, (⟨#[]⟩ : ByteArray), t239, 0)) = some (r1, r2, r3, r4, r5, r6) := H
                have A24 := Aside0.mk A240
                clear A240
                simp only [Option.some.injEq, Prod.mk.injEq] at H
                obtain ⟨rfl, rfl, rfl, rfl, rfl, rfl⟩ := H
                go_wp2_with (first | ((with_reducible refine gate_callee (f := 47) rfl ?_); refine goesL_ (some 65) rfl rfl Tryd.func47 (by kernel_rfl) rfl #[.string x6_2] rfl (by (try simp only [List.map_toArray, List.map_cons, List.map_nil]); first | done | rfl | (simp only [List.length_drop, List.length_take]; rfl)) ?_; (with_reducible refine (atriumref17_line.calls k2 x6_2 t226 t227 t228 _ A20.out).mono ?_); rintro e w' ⟨rfl, ⟨nd, rfl⟩⟩; refine ⟨_, rfl, ?_⟩; (try (rw [drewN_self wr]; generalize hq_ : World.drewN wr _ = wr; have n0_ : Aside0 (Kd.R k50 50 wr w.heap.size (fun _ => True) u215002 x215002_2) := ⟨by rw [← hq_]; exact (by (with_reducible repeat (first | apply Kd.R_alloc | apply Kd.R_drewN | apply Kd.R_drew)); exact HO_215002.out)⟩; have n1_ : Aside0 (wr.heap[gb213]? = some (.cells #[.string x214000_2, .string x214001_2, .slice none 0 0, .string x214003_2, .bool x214004_2] 25 (0, 0))) := ⟨by rw [← hq_]; exact (by (with_reducible repeat (first | refine blk_drewN ?_ _ | refine blk_drew ?_ | refine blk_alloc ?_ _)); exact BK213.out)⟩; have n2_ : Aside0 (wr.heap[gb214]? = some (.cells #[.string t218, .string t221, u215002, .string (⟨#[]⟩ : ByteArray), .bool false] 25 (0, 0))) := ⟨by rw [← hq_]; exact (by (with_reducible repeat (first | refine blk_drewN ?_ _ | refine blk_drew ?_ | refine blk_alloc ?_ _)); exact BK214.out)⟩; have n3_ : Aside0 (Below w.heap.size w wr) := ⟨by rw [← hq_]; exact (by repeat (first | (with_reducible first | exact HB.out | apply below_alloc | apply pw_below_drewN | apply below_drew1 | refine below_set ?_ GE213.out | refine below_set ?_ GE214.out) | exact HB.out))⟩; clear HO_215002 BK213 BK214 HB hq_; have HO_215002 := n0_; have BK213 := n1_; have BK214 := n2_; have HB := n3_; clear n0_ n1_ n2_ n3_)); have hnb25 := NB214_213.out; have hnc25 := NB213_214.out; have hcz26_0 : wr.cell? ⟨gb214, 0, none⟩ = some (.string t218) := (blk_cell BK214.out 0).trans rfl; have hcz26_1 : wr.cell? ⟨gb214, 1, none⟩ = some (.string t221) := (blk_cell BK214.out 1).trans rfl; have hcz26_2 : wr.cell? ⟨gb214, 2, none⟩ = some (u215002) := (blk_cell BK214.out 2).trans rfl; have hcz26_3 : wr.cell? ⟨gb214, 3, none⟩ = some (.string (⟨#[]⟩ : ByteArray)) := (blk_cell BK214.out 3).trans rfl; have hcz26_4 : wr.cell? ⟨gb214, 4, none⟩ = some (.bool false) := (blk_cell BK214.out 4).trans rfl; have hfz26_0 := blk_frozen BK214.out 0; have hfz26_1 := blk_frozen BK214.out 1; have hfz26_2 := blk_frozen BK214.out 2; have hfz26_3 := blk_frozen BK214.out 3; have hfz26_4 := blk_frozen BK214.out 4; obtain ⟨Ao27, co27, eo27⟩ := Kd.R_slice HO_215002.out; subst eo27) | ((with_reducible refine gate_callee (f := 38) rfl ?_); refine goesL_ (some 102) rfl rfl Tryd.func38 (by kernel_rfl) rfl #[.agg #[.string t218, .string t221, .slice Ao27 x215002_2.length co27, .string (⟨#[]⟩ : ByteArray), .bool false]] rfl (by (try simp only [List.map_toArray, List.map_cons, List.map_nil]); first | done | rfl | (simp only [List.length_drop, List.length_take]; rfl)) ?_; (with_reducible refine (atriumref17_fields.calls k2 t218 t221 _ _ x215002_2 (⟨#[]⟩ : ByteArray) false true _ ?side1 ?side2 A22.out).mono ?_); (case side1 => repeat (first | exact (Kd.R_reads' HO_215002.out).2.2 | (with_reducible refine Kd.C_alloc ?_ _) | (with_reducible refine Kd.C_drewN ?_ _) | (with_reducible refine Kd.C_drew ?_))); (case side2 => exact (Kd.R_reads' HO_215002.out).2.1); rintro e w28 ⟨rfl, hb⟩; refine ⟨_, rfl, ?_⟩; have n0_ := Aside0.mk (Kd.R_below (by (with_reducible repeat (first | apply Kd.R_alloc | apply Kd.R_drewN | apply Kd.R_drew)); exact HO_215002.out) hb); have n1_ := Aside0.mk (blk_below (g := gb213) (o := .cells #[.string x214000_2, .string x214001_2, .slice none 0 0, .string x214003_2, .bool x214004_2] 25 (0, 0)) (by (with_reducible repeat (first | refine blk_drewN ?_ _ | refine blk_drew ?_ | refine blk_alloc ?_ _)); exact BK213.out) hb); have n2_ := Aside0.mk (blk_below (g := gb214) (o := .cells #[.string t218, .string t221, .slice Ao27 x215002_2.length co27, .string (⟨#[]⟩ : ByteArray), .bool false] 25 (0, 0)) (by (with_reducible repeat (first | refine blk_drewN ?_ _ | refine blk_drew ?_ | refine blk_alloc ?_ _)); exact BK214.out) hb); have n3_ := Aside0.mk (below_step (by repeat (first | (with_reducible first | exact HB.out | apply below_alloc | apply pw_below_drewN | apply below_drew1 | refine below_set ?_ GE213.out | refine below_set ?_ GE214.out) | exact HB.out)) hb); clear HO_215002; clear BK213; clear BK214; clear HB; have HO_215002 := n0_; have BK213 := n1_; have BK214 := n2_; have HB := n3_; clear n0_ n1_ n2_ n3_; (try clear hb); (try clear hb2); (try clear hk); (try clear hi); have hcz29_0 : w28.cell? ⟨gb214, 0, none⟩ = some (.string t218) := (blk_cell BK214.out 0).trans rfl; have hcz29_1 : w28.cell? ⟨gb214, 1, none⟩ = some (.string t221) := (blk_cell BK214.out 1).trans rfl; have hcz29_2 : w28.cell? ⟨gb214, 2, none⟩ = some (.slice Ao27 x215002_2.length co27) := (blk_cell BK214.out 2).trans rfl; have hcz29_3 : w28.cell? ⟨gb214, 3, none⟩ = some (.string (⟨#[]⟩ : ByteArray)) := (blk_cell BK214.out 3).trans rfl; have hcz29_4 : w28.cell? ⟨gb214, 4, none⟩ = some (.bool false) := (blk_cell BK214.out 4).trans rfl; have hfz29_0 := blk_frozen BK214.out 0; have hfz29_1 := blk_frozen BK214.out 1; have hfz29_2 := blk_frozen BK214.out 2; have hfz29_3 := blk_frozen BK214.out 3; have hfz29_4 := blk_frozen BK214.out 4) | ((with_reducible refine gate_callee (f := 39) rfl ?_); refine goesL_ (some 106) rfl rfl Tryd.func39 (by kernel_rfl) rfl #[.agg #[.string t218, .string t221, .slice Ao27 x215002_2.length co27, .string (⟨#[]⟩ : ByteArray), .bool false]] rfl (by (try simp only [List.map_toArray, List.map_cons, List.map_nil]); first | done | rfl | (simp only [List.length_drop, List.length_take]; rfl)) ?_; (with_reducible refine (atriumref17_closes.calls k2 t218 t221 _ _ x215002_2 (⟨#[]⟩ : ByteArray) false t239 _ ?side1 ?side2 A24.out).mono ?_); (case side1 => repeat (first | exact (Kd.R_reads' HO_215002.out).2.2 | (with_reducible refine Kd.C_alloc ?_ _) | (with_reducible refine Kd.C_drewN ?_ _) | (with_reducible refine Kd.C_drew ?_))); (case side2 => exact (Kd.R_reads' HO_215002.out).2.1); rintro e w30 ⟨rfl, hb⟩; refine ⟨_, rfl, ?_⟩; have n0_ := Aside0.mk (Kd.R_below (by (with_reducible repeat (first | apply Kd.R_alloc | apply Kd.R_drewN | apply Kd.R_drew)); exact HO_215002.out) hb); have n1_ := Aside0.mk (blk_below (g := gb213) (o := .cells #[.string x214000_2, .string x214001_2, .slice none 0 0, .string x214003_2, .bool x214004_2] 25 (0, 0)) (by (with_reducible repeat (first | refine blk_drewN ?_ _ | refine blk_drew ?_ | refine blk_alloc ?_ _)); exact BK213.out) hb); have n2_ := Aside0.mk (blk_below (g := gb214) (o := .cells #[.string t218, .string t221, .slice Ao27 x215002_2.length co27, .string (⟨#[]⟩ : ByteArray), .bool false] 25 (0, 0)) (by (with_reducible repeat (first | refine blk_drewN ?_ _ | refine blk_drew ?_ | refine blk_alloc ?_ _)); exact BK214.out) hb); have n3_ := Aside0.mk (below_step (by repeat (first | (with_reducible first | exact HB.out | apply below_alloc | apply pw_below_drewN | apply below_drew1 | refine below_set ?_ GE213.out | refine below_set ?_ GE214.out) | exact HB.out)) hb); clear HO_215002; clear BK213; clear BK214; clear HB; have HO_215002 := n0_; have BK213 := n1_; have BK214 := n2_; have HB := n3_; clear n0_ n1_ n2_ n3_; (try clear hb); (try clear hb2); (try clear hk); (try clear hi); have hcz31_0 : w30.cell? ⟨gb214, 0, none⟩ = some (.string t218) := (blk_cell BK214.out 0).trans rfl; have hcz31_1 : w30.cell? ⟨gb214, 1, none⟩ = some (.string t221) := (blk_cell BK214.out 1).trans rfl; have hcz31_2 : w30.cell? ⟨gb214, 2, none⟩ = some (.slice Ao27 x215002_2.length co27) := (blk_cell BK214.out 2).trans rfl; have hcz31_3 : w30.cell? ⟨gb214, 3, none⟩ = some (.string (⟨#[]⟩ : ByteArray)) := (blk_cell BK214.out 3).trans rfl; have hcz31_4 : w30.cell? ⟨gb214, 4, none⟩ = some (.bool false) := (blk_cell BK214.out 4).trans rfl; have hfz31_0 := blk_frozen BK214.out 0; have hfz31_1 := blk_frozen BK214.out 1; have hfz31_2 := blk_frozen BK214.out 2; have hfz31_3 := blk_frozen BK214.out 3; have hfz31_4 := blk_frozen BK214.out 4; have hcz32_0 : w30.cell? ⟨gb213, 0, none⟩ = some (.string x214000_2) := (blk_cell BK213.out 0).trans rfl; have hcz32_1 : w30.cell? ⟨gb213, 1, none⟩ = some (.string x214001_2) := (blk_cell BK213.out 1).trans rfl; have hcz32_2 : w30.cell? ⟨gb213, 2, none⟩ = some (.slice none 0 0) := (blk_cell BK213.out 2).trans rfl; have hcz32_3 : w30.cell? ⟨gb213, 3, none⟩ = some (.string x214003_2) := (blk_cell BK213.out 3).trans rfl; have hcz32_4 : w30.cell? ⟨gb213, 4, none⟩ = some (.bool x214004_2) := (blk_cell BK213.out 4).trans rfl; have hfz32_0 := blk_frozen BK213.out 0; have hfz32_1 := blk_frozen BK213.out 1; have hfz32_2 := blk_frozen BK213.out 2; have hfz32_3 := blk_frozen BK213.out 3; have hfz32_4 := blk_frozen BK213.out 4))
                refine bodyPost_ret (results_ct rfl _ _ gb213 25 #[.string t218, .string t221, .slice Ao27 x215002_2.length co27, .string (⟨#[]⟩ : ByteArray), .bool t239] (0, 0) _ rfl (by (with_reducible repeat (first | refine blk_drewN ?_ _ | refine blk_drew ?_ | refine blk_alloc ?_ _)); refine blk_put (cs := #[.string t218, .string t221, .slice Ao27 x215002_2.length co27, .string (⟨#[]⟩ : ByteArray), .bool x214004_2]) ?_ 4 _ rfl; (with_reducible repeat (first | refine blk_drewN ?_ _ | refine blk_drew ?_ | refine blk_alloc ?_ _)); refine blk_put (cs := #[.string t218, .string t221, .slice Ao27 x215002_2.length co27, .string x214003_2, .bool x214004_2]) ?_ 3 _ rfl; (with_reducible repeat (first | refine blk_drewN ?_ _ | refine blk_drew ?_ | refine blk_alloc ?_ _)); refine blk_put (cs := #[.string t218, .string t221, .slice none 0 0, .string x214003_2, .bool x214004_2]) ?_ 2 _ rfl; (with_reducible repeat (first | refine blk_drewN ?_ _ | refine blk_drew ?_ | refine blk_alloc ?_ _)); refine blk_put (cs := #[.string t218, .string x214001_2, .slice none 0 0, .string x214003_2, .bool x214004_2]) ?_ 1 _ rfl; (with_reducible repeat (first | refine blk_drewN ?_ _ | refine blk_drew ?_ | refine blk_alloc ?_ _)); refine blk_put (cs := #[.string x214000_2, .string x214001_2, .slice none 0 0, .string x214003_2, .bool x214004_2]) ?_ 0 _ rfl; (with_reducible repeat (first | refine blk_drewN ?_ _ | refine blk_drew ?_ | refine blk_alloc ?_ _)); refine blk_far ?_ NB213_214.out _; (with_reducible repeat (first | refine blk_drewN ?_ _ | refine blk_drew ?_ | refine blk_alloc ?_ _)); exact BK213.out) Tryd.underlying25 rfl (by kernel_rfl)) rfl ?_
                exact ⟨_, by first | rfl | (simp [errW_none, errW_some] <;> rfl) | (simp [*, errW_none, errW_some] <;> rfl), by (with_reducible repeat (first | apply Kd.R_alloc | apply Kd.R_drewN | apply Kd.R_drew)); exact Kd.R_mono (Kd.R_far (p := ⟨gb213, 4, none⟩) (Kd.R_far (p := ⟨gb213, 3, none⟩) (Kd.R_far (p := ⟨gb213, 2, none⟩) (Kd.R_far (p := ⟨gb213, 1, none⟩) (Kd.R_far (p := ⟨gb213, 0, none⟩) (Kd.R_far (p := ⟨gb214, 4, none⟩) (Kd.R_types (Kd.R_types HO_215002.out BK214.out (by decide)) BK213.out (by decide)) (fun _ hk => hk.1.2) (.bool t239)) (fun _ hk => hk.2) (.string t218)) (fun _ hk => hk.2) (.string t221)) (fun _ hk => hk.2) (.slice Ao27 x215002_2.length co27)) (fun _ hk => hk.2) (.string (⟨#[]⟩ : ByteArray))) (fun _ hk => hk.2) (.bool t239)) (fun _ hk => trivial), by repeat (first | (with_reducible first | exact HB.out | apply below_alloc | apply pw_below_drewN | apply below_drew1 | refine below_set ?_ GE213.out | refine below_set ?_ GE214.out) | exact HB.out)⟩
              · replace c23 := Bool.eq_false_iff.mpr c23
                subst c23
                have H1 : (some (t218, t221, x215002_2, (⟨#[]⟩ : ByteArray), false, 170)) = some (r1, r2, r3, r4, r5, r6) := by rw [if_neg (show ¬ (false = true) by decide)] at H; exact H
                clear H
                have H := H1
                clear H1
                simp only [Option.some.injEq, Prod.mk.injEq] at H
                obtain ⟨rfl, rfl, rfl, rfl, rfl, rfl⟩ := H
                go_wp2_with (first | ((with_reducible refine gate_callee (f := 47) rfl ?_); refine goesL_ (some 65) rfl rfl Tryd.func47 (by kernel_rfl) rfl #[.string x6_2] rfl (by (try simp only [List.map_toArray, List.map_cons, List.map_nil]); first | done | rfl | (simp only [List.length_drop, List.length_take]; rfl)) ?_; (with_reducible refine (atriumref17_line.calls k2 x6_2 t226 t227 t228 _ A20.out).mono ?_); rintro e w' ⟨rfl, ⟨nd, rfl⟩⟩; refine ⟨_, rfl, ?_⟩; (try (rw [drewN_self wr]; generalize hq_ : World.drewN wr _ = wr; have n0_ : Aside0 (Kd.R k50 50 wr w.heap.size (fun _ => True) u215002 x215002_2) := ⟨by rw [← hq_]; exact (by (with_reducible repeat (first | apply Kd.R_alloc | apply Kd.R_drewN | apply Kd.R_drew)); exact HO_215002.out)⟩; have n1_ : Aside0 (wr.heap[gb213]? = some (.cells #[.string x214000_2, .string x214001_2, .slice none 0 0, .string x214003_2, .bool x214004_2] 25 (0, 0))) := ⟨by rw [← hq_]; exact (by (with_reducible repeat (first | refine blk_drewN ?_ _ | refine blk_drew ?_ | refine blk_alloc ?_ _)); exact BK213.out)⟩; have n2_ : Aside0 (wr.heap[gb214]? = some (.cells #[.string t218, .string t221, u215002, .string (⟨#[]⟩ : ByteArray), .bool false] 25 (0, 0))) := ⟨by rw [← hq_]; exact (by (with_reducible repeat (first | refine blk_drewN ?_ _ | refine blk_drew ?_ | refine blk_alloc ?_ _)); exact BK214.out)⟩; have n3_ : Aside0 (Below w.heap.size w wr) := ⟨by rw [← hq_]; exact (by repeat (first | (with_reducible first | exact HB.out | apply below_alloc | apply pw_below_drewN | apply below_drew1 | refine below_set ?_ GE213.out | refine below_set ?_ GE214.out) | exact HB.out))⟩; clear HO_215002 BK213 BK214 HB hq_; have HO_215002 := n0_; have BK213 := n1_; have BK214 := n2_; have HB := n3_; clear n0_ n1_ n2_ n3_)); have hnb33 := NB214_213.out; have hnc33 := NB213_214.out; have hcz34_0 : wr.cell? ⟨gb214, 0, none⟩ = some (.string t218) := (blk_cell BK214.out 0).trans rfl; have hcz34_1 : wr.cell? ⟨gb214, 1, none⟩ = some (.string t221) := (blk_cell BK214.out 1).trans rfl; have hcz34_2 : wr.cell? ⟨gb214, 2, none⟩ = some (u215002) := (blk_cell BK214.out 2).trans rfl; have hcz34_3 : wr.cell? ⟨gb214, 3, none⟩ = some (.string (⟨#[]⟩ : ByteArray)) := (blk_cell BK214.out 3).trans rfl; have hcz34_4 : wr.cell? ⟨gb214, 4, none⟩ = some (.bool false) := (blk_cell BK214.out 4).trans rfl; have hfz34_0 := blk_frozen BK214.out 0; have hfz34_1 := blk_frozen BK214.out 1; have hfz34_2 := blk_frozen BK214.out 2; have hfz34_3 := blk_frozen BK214.out 3; have hfz34_4 := blk_frozen BK214.out 4; obtain ⟨Ao35, co35, eo35⟩ := Kd.R_slice HO_215002.out; subst eo35) | ((with_reducible refine gate_callee (f := 38) rfl ?_); refine goesL_ (some 102) rfl rfl Tryd.func38 (by kernel_rfl) rfl #[.agg #[.string t218, .string t221, .slice Ao35 x215002_2.length co35, .string (⟨#[]⟩ : ByteArray), .bool false]] rfl (by (try simp only [List.map_toArray, List.map_cons, List.map_nil]); first | done | rfl | (simp only [List.length_drop, List.length_take]; rfl)) ?_; (with_reducible refine (atriumref17_fields.calls k2 t218 t221 _ _ x215002_2 (⟨#[]⟩ : ByteArray) false false _ ?side1 ?side2 A22.out).mono ?_); (case side1 => repeat (first | exact (Kd.R_reads' HO_215002.out).2.2 | (with_reducible refine Kd.C_alloc ?_ _) | (with_reducible refine Kd.C_drewN ?_ _) | (with_reducible refine Kd.C_drew ?_))); (case side2 => exact (Kd.R_reads' HO_215002.out).2.1); rintro e w36 ⟨rfl, hb⟩; refine ⟨_, rfl, ?_⟩; have n0_ := Aside0.mk (Kd.R_below (by (with_reducible repeat (first | apply Kd.R_alloc | apply Kd.R_drewN | apply Kd.R_drew)); exact HO_215002.out) hb); have n1_ := Aside0.mk (blk_below (g := gb213) (o := .cells #[.string x214000_2, .string x214001_2, .slice none 0 0, .string x214003_2, .bool x214004_2] 25 (0, 0)) (by (with_reducible repeat (first | refine blk_drewN ?_ _ | refine blk_drew ?_ | refine blk_alloc ?_ _)); exact BK213.out) hb); have n2_ := Aside0.mk (blk_below (g := gb214) (o := .cells #[.string t218, .string t221, .slice Ao35 x215002_2.length co35, .string (⟨#[]⟩ : ByteArray), .bool false] 25 (0, 0)) (by (with_reducible repeat (first | refine blk_drewN ?_ _ | refine blk_drew ?_ | refine blk_alloc ?_ _)); exact BK214.out) hb); have n3_ := Aside0.mk (below_step (by repeat (first | (with_reducible first | exact HB.out | apply below_alloc | apply pw_below_drewN | apply below_drew1 | refine below_set ?_ GE213.out | refine below_set ?_ GE214.out) | exact HB.out)) hb); clear HO_215002; clear BK213; clear BK214; clear HB; have HO_215002 := n0_; have BK213 := n1_; have BK214 := n2_; have HB := n3_; clear n0_ n1_ n2_ n3_; (try clear hb); (try clear hb2); (try clear hk); (try clear hi); have hcz37_0 : w36.cell? ⟨gb214, 0, none⟩ = some (.string t218) := (blk_cell BK214.out 0).trans rfl; have hcz37_1 : w36.cell? ⟨gb214, 1, none⟩ = some (.string t221) := (blk_cell BK214.out 1).trans rfl; have hcz37_2 : w36.cell? ⟨gb214, 2, none⟩ = some (.slice Ao35 x215002_2.length co35) := (blk_cell BK214.out 2).trans rfl; have hcz37_3 : w36.cell? ⟨gb214, 3, none⟩ = some (.string (⟨#[]⟩ : ByteArray)) := (blk_cell BK214.out 3).trans rfl; have hcz37_4 : w36.cell? ⟨gb214, 4, none⟩ = some (.bool false) := (blk_cell BK214.out 4).trans rfl; have hfz37_0 := blk_frozen BK214.out 0; have hfz37_1 := blk_frozen BK214.out 1; have hfz37_2 := blk_frozen BK214.out 2; have hfz37_3 := blk_frozen BK214.out 3; have hfz37_4 := blk_frozen BK214.out 4; have hcz38_0 : w36.cell? ⟨gb213, 0, none⟩ = some (.string x214000_2) := (blk_cell BK213.out 0).trans rfl; have hcz38_1 : w36.cell? ⟨gb213, 1, none⟩ = some (.string x214001_2) := (blk_cell BK213.out 1).trans rfl; have hcz38_2 : w36.cell? ⟨gb213, 2, none⟩ = some (.slice none 0 0) := (blk_cell BK213.out 2).trans rfl; have hcz38_3 : w36.cell? ⟨gb213, 3, none⟩ = some (.string x214003_2) := (blk_cell BK213.out 3).trans rfl; have hcz38_4 : w36.cell? ⟨gb213, 4, none⟩ = some (.bool x214004_2) := (blk_cell BK213.out 4).trans rfl; have hfz38_0 := blk_frozen BK213.out 0; have hfz38_1 := blk_frozen BK213.out 1; have hfz38_2 := blk_frozen BK213.out 2; have hfz38_3 := blk_frozen BK213.out 3; have hfz38_4 := blk_frozen BK213.out 4))
                refine bodyPost_ret (results_ct rfl _ _ gb213 25 #[.string t218, .string t221, .slice Ao35 x215002_2.length co35, .string (⟨#[]⟩ : ByteArray), .bool false] (0, 0) _ rfl (by (with_reducible repeat (first | refine blk_drewN ?_ _ | refine blk_drew ?_ | refine blk_alloc ?_ _)); refine blk_put (cs := #[.string t218, .string t221, .slice Ao35 x215002_2.length co35, .string (⟨#[]⟩ : ByteArray), .bool x214004_2]) ?_ 4 _ rfl; (with_reducible repeat (first | refine blk_drewN ?_ _ | refine blk_drew ?_ | refine blk_alloc ?_ _)); refine blk_put (cs := #[.string t218, .string t221, .slice Ao35 x215002_2.length co35, .string x214003_2, .bool x214004_2]) ?_ 3 _ rfl; (with_reducible repeat (first | refine blk_drewN ?_ _ | refine blk_drew ?_ | refine blk_alloc ?_ _)); refine blk_put (cs := #[.string t218, .string t221, .slice none 0 0, .string x214003_2, .bool x214004_2]) ?_ 2 _ rfl; (with_reducible repeat (first | refine blk_drewN ?_ _ | refine blk_drew ?_ | refine blk_alloc ?_ _)); refine blk_put (cs := #[.string t218, .string x214001_2, .slice none 0 0, .string x214003_2, .bool x214004_2]) ?_ 1 _ rfl; (with_reducible repeat (first | refine blk_drewN ?_ _ | refine blk_drew ?_ | refine blk_alloc ?_ _)); refine blk_put (cs := #[.string x214000_2, .string x214001_2, .slice none 0 0, .string x214003_2, .bool x214004_2]) ?_ 0 _ rfl; (with_reducible repeat (first | refine blk_drewN ?_ _ | refine blk_drew ?_ | refine blk_alloc ?_ _)); exact BK213.out) Tryd.underlying25 rfl (by kernel_rfl)) rfl ?_
                exact ⟨_, by first | rfl | (simp [errW_none, errW_some] <;> rfl) | (simp [*, errW_none, errW_some] <;> rfl), by (with_reducible repeat (first | apply Kd.R_alloc | apply Kd.R_drewN | apply Kd.R_drew)); exact Kd.R_mono (Kd.R_far (p := ⟨gb213, 4, none⟩) (Kd.R_far (p := ⟨gb213, 3, none⟩) (Kd.R_far (p := ⟨gb213, 2, none⟩) (Kd.R_far (p := ⟨gb213, 1, none⟩) (Kd.R_far (p := ⟨gb213, 0, none⟩) (Kd.R_types HO_215002.out BK213.out (by decide)) (fun _ hk => hk.2) (.string t218)) (fun _ hk => hk.2) (.string t221)) (fun _ hk => hk.2) (.slice Ao35 x215002_2.length co35)) (fun _ hk => hk.2) (.string (⟨#[]⟩ : ByteArray))) (fun _ hk => hk.2) (.bool false)) (fun _ hk => trivial), by repeat (first | (with_reducible first | exact HB.out | apply below_alloc | apply pw_below_drewN | apply below_drew1 | refine below_set ?_ GE213.out | refine below_set ?_ GE214.out) | exact HB.out)⟩
            · rw [if_neg c21] at H
              have c21b0 : (t226.toList == ([] : List UInt8)) = false := beq_eq_false_iff_ne.mpr c21
              have c21b1 : (t226.toList != ([] : List UInt8)) = true := bne_iff_ne.mpr c21
              have c21b5 : t226.toList.isEmpty = false := Bool.eq_false_iff.mpr fun h_ => absurd (List.isEmpty_iff.mp h_) (beq_eq_false_iff_ne.mp c21b0)
              replace H := Option.bind_eq_some_iff.mp H
              obtain ⟨⟨t229, t230, t231⟩, A390, H⟩ := H
              replace H : ((atriumref15_Trim.f k2 t230).bind fun t232 => (if t231 = true then ((atriumref15_Token.f k2 t229).bind fun t233 => (if t233 = true then ((atriumref17_value.f k2 t232).bind fun t234 => (if t234 = true then (if x215002_2.length < 4398046511104 then (atriumref17_head.l0 k2 t227 t218 t221 (x215002_2 ++ [(⟨t229, t232⟩ : S50)]) (⟨#[]⟩ : ByteArray) false) else (none)) else (some (t218, t221, x215002_2, (⟨#[]⟩ : ByteArray), false, 170)))) else (some (t218, t221, x215002_2, (⟨#[]⟩ : ByteArray), false, 170)))) else (some (t218, t221, x215002_2, (⟨#[]⟩ : ByteArray), false, 170)))) = some (r1, r2, r3, r4, r5, r6) := H
              have A39 := Aside0.mk A390
              clear A390
              replace H := Option.bind_eq_some_iff.mp H
              obtain ⟨t232, A400, H⟩ := H
              replace H : (if t231 = true then ((atriumref15_Token.f k2 t229).bind fun t233 => (if t233 = true then ((atriumref17_value.f k2 t232).bind fun t234 => (if t234 = true then (if x215002_2.length < 4398046511104 then (atriumref17_head.l0 k2 t227 t218 t221 (x215002_2 ++ [(⟨t229, t232⟩ : S50)]) (⟨#[]⟩ : ByteArray) false) else (none)) else (some (t218, t221, x215002_2, (⟨#[]⟩ : ByteArray), false, 170)))) else (some (t218, t221, x215002_2, (⟨#[]⟩ : ByteArray), false, 170)))) else (some (t218, t221, x215002_2, (⟨#[]⟩ : ByteArray), false, 170))) = some (r1, r2, r3, r4, r5, r6) := H
              have A40 := Aside0.mk A400
              clear A400
              by_cases c41 : t231 = true
              · subst c41
                have H1 : ((atriumref15_Token.f k2 t229).bind fun t233 => (if t233 = true then ((atriumref17_value.f k2 t232).bind fun t234 => (if t234 = true then (if x215002_2.length < 4398046511104 then (atriumref17_head.l0 k2 t227 t218 t221 (x215002_2 ++ [(⟨t229, t232⟩ : S50)]) (⟨#[]⟩ : ByteArray) false) else (none)) else (some (t218, t221, x215002_2, (⟨#[]⟩ : ByteArray), false, 170)))) else (some (t218, t221, x215002_2, (⟨#[]⟩ : ByteArray), false, 170)))) = some (r1, r2, r3, r4, r5, r6) := by rw [if_pos rfl] at H; exact H
                clear H
                have H := H1
                clear H1
                replace H := Option.bind_eq_some_iff.mp H
                obtain ⟨t233, A420, H⟩ := H
                replace H : (if t233 = true then ((atriumref17_value.f k2 t232).bind fun t234 => (if t234 = true then (if x215002_2.length < 4398046511104 then (atriumref17_head.l0 k2 t227 t218 t221 (x215002_2 ++ [(⟨t229, t232⟩ : S50)]) (⟨#[]⟩ : ByteArray) false) else (none)) else (some (t218, t221, x215002_2, (⟨#[]⟩ : ByteArray), false, 170)))) else (some (t218, t221, x215002_2, (⟨#[]⟩ : ByteArray), false, 170))) = some (r1, r2, r3, r4, r5, r6) := H
                have A42 := Aside0.mk A420
                clear A420
                by_cases c43 : t233 = true
                · subst c43
                  have H1 : ((atriumref17_value.f k2 t232).bind fun t234 => (if t234 = true then (if x215002_2.length < 4398046511104 then (atriumref17_head.l0 k2 t227 t218 t221 (x215002_2 ++ [(⟨t229, t232⟩ : S50)]) (⟨#[]⟩ : ByteArray) false) else (none)) else (some (t218, t221, x215002_2, (⟨#[]⟩ : ByteArray), false, 170)))) = some (r1, r2, r3, r4, r5, r6) := by rw [if_pos rfl] at H; exact H
                  clear H
                  have H := H1
                  clear H1
                  replace H := Option.bind_eq_some_iff.mp H
                  obtain ⟨t234, A440, H⟩ := H
                  replace H : (if t234 = true then (if x215002_2.length < 4398046511104 then (atriumref17_head.l0 k2 t227 t218 t221 (x215002_2 ++ [(⟨t229, t232⟩ : S50)]) (⟨#[]⟩ : ByteArray) false) else (none)) else (some (t218, t221, x215002_2, (⟨#[]⟩ : ByteArray), false, 170))) = some (r1, r2, r3, r4, r5, r6) := H
                  have A44 := Aside0.mk A440
                  clear A440
                  by_cases c45 : t234 = true
                  · subst c45
                    have H1 : (if x215002_2.length < 4398046511104 then (atriumref17_head.l0 k2 t227 t218 t221 (x215002_2 ++ [(⟨t229, t232⟩ : S50)]) (⟨#[]⟩ : ByteArray) false) else (none)) = some (r1, r2, r3, r4, r5, r6) := by rw [if_pos rfl] at H; exact H
                    clear H
                    have H := H1
                    clear H1
                    by_cases c46 : x215002_2.length < 4398046511104
                    · rw [if_pos c46] at H
                      have LMc46 := Aside0.mk c46
                      clear c46
                      obtain ⟨y235, hy235⟩ : ∃ y_ : List (S50), y_ = (x215002_2 ++ [(⟨t229, t232⟩ : S50)]) := ⟨_, rfl⟩
                      replace H : (atriumref17_head.l0 k2 t227 t218 t221 y235 (⟨#[]⟩ : ByteArray) false) = some (r1, r2, r3, r4, r5, r6) := by first | (rw [hy235]; with_reducible exact H) | (have H2_ := (Option.bind_some _ _).symm.trans H; rw [hy235]; with_reducible exact H2_) | (have H2_ := (Option.bind_some _ _).symm.trans H; with_reducible exact H2_) | with_reducible exact H | (rw [hy235]; exact H) | exact H
                      have Ny235 := Aside0.mk hy235
                      clear hy235
                      have H' := Aside0.mk H
                      clear H
                      go_wp2_with (first | ((with_reducible refine gate_callee (f := 47) rfl ?_); refine goesL_ (some 65) rfl rfl Tryd.func47 (by kernel_rfl) rfl #[.string x6_2] rfl (by (try simp only [List.map_toArray, List.map_cons, List.map_nil]); first | done | rfl | (simp only [List.length_drop, List.length_take]; rfl)) ?_; (with_reducible refine (atriumref17_line.calls k2 x6_2 t226 t227 t228 _ A20.out).mono ?_); rintro e w' ⟨rfl, ⟨nd, rfl⟩⟩; refine ⟨_, rfl, ?_⟩; (try (rw [drewN_self wr]; generalize hq_ : World.drewN wr _ = wr; have n0_ : Aside0 (Kd.R k50 50 wr w.heap.size (fun _ => True) u215002 x215002_2) := ⟨by rw [← hq_]; exact (by (with_reducible repeat (first | apply Kd.R_alloc | apply Kd.R_drewN | apply Kd.R_drew)); exact HO_215002.out)⟩; have n1_ : Aside0 (wr.heap[gb213]? = some (.cells #[.string x214000_2, .string x214001_2, .slice none 0 0, .string x214003_2, .bool x214004_2] 25 (0, 0))) := ⟨by rw [← hq_]; exact (by (with_reducible repeat (first | refine blk_drewN ?_ _ | refine blk_drew ?_ | refine blk_alloc ?_ _)); exact BK213.out)⟩; have n2_ : Aside0 (wr.heap[gb214]? = some (.cells #[.string t218, .string t221, u215002, .string (⟨#[]⟩ : ByteArray), .bool false] 25 (0, 0))) := ⟨by rw [← hq_]; exact (by (with_reducible repeat (first | refine blk_drewN ?_ _ | refine blk_drew ?_ | refine blk_alloc ?_ _)); exact BK214.out)⟩; have n3_ : Aside0 (Below w.heap.size w wr) := ⟨by rw [← hq_]; exact (by repeat (first | (with_reducible first | exact HB.out | apply below_alloc | apply pw_below_drewN | apply below_drew1 | refine below_set ?_ GE213.out | refine below_set ?_ GE214.out) | exact HB.out))⟩; clear HO_215002 BK213 BK214 HB hq_; have HO_215002 := n0_; have BK213 := n1_; have BK214 := n2_; have HB := n3_; clear n0_ n1_ n2_ n3_))) | ((with_reducible refine gate_callee (f := 48) rfl ?_); refine goesL_ (some 73) rfl rfl Tryd.func48 (by kernel_rfl) rfl #[.string t226, .int .u8 58] rfl (by (try simp only [List.map_toArray, List.map_cons, List.map_nil]); first | done | rfl | (simp only [List.length_drop, List.length_take]; rfl)) ?_; (with_reducible refine (atriumref17_cut.calls k2 t226 58 t229 t230 true _ A39.out).mono ?_); rintro e w' ⟨rfl, ⟨nd, rfl⟩⟩; refine ⟨_, rfl, ?_⟩; (try (rw [drewN_self wr]; generalize hq_ : World.drewN wr _ = wr; have n0_ : Aside0 (Kd.R k50 50 wr w.heap.size (fun _ => True) u215002 x215002_2) := ⟨by rw [← hq_]; exact (by (with_reducible repeat (first | apply Kd.R_alloc | apply Kd.R_drewN | apply Kd.R_drew)); exact HO_215002.out)⟩; have n1_ : Aside0 (wr.heap[gb213]? = some (.cells #[.string x214000_2, .string x214001_2, .slice none 0 0, .string x214003_2, .bool x214004_2] 25 (0, 0))) := ⟨by rw [← hq_]; exact (by (with_reducible repeat (first | refine blk_drewN ?_ _ | refine blk_drew ?_ | refine blk_alloc ?_ _)); exact BK213.out)⟩; have n2_ : Aside0 (wr.heap[gb214]? = some (.cells #[.string t218, .string t221, u215002, .string (⟨#[]⟩ : ByteArray), .bool false] 25 (0, 0))) := ⟨by rw [← hq_]; exact (by (with_reducible repeat (first | refine blk_drewN ?_ _ | refine blk_drew ?_ | refine blk_alloc ?_ _)); exact BK214.out)⟩; have n3_ : Aside0 (Below w.heap.size w wr) := ⟨by rw [← hq_]; exact (by repeat (first | (with_reducible first | exact HB.out | apply below_alloc | apply pw_below_drewN | apply below_drew1 | refine below_set ?_ GE213.out | refine below_set ?_ GE214.out) | exact HB.out))⟩; clear HO_215002 BK213 BK214 HB hq_; have HO_215002 := n0_; have BK213 := n1_; have BK214 := n2_; have HB := n3_; clear n0_ n1_ n2_ n3_))) | ((with_reducible refine gate_callee (f := 42) rfl ?_); refine goesL_ (some 78) rfl rfl Tryd.func42 (by kernel_rfl) rfl #[.string t230] rfl (by (try simp only [List.map_toArray, List.map_cons, List.map_nil]); first | done | rfl | (simp only [List.length_drop, List.length_take]; rfl)) ?_; (with_reducible refine (atriumref15_Trim.calls k2 t230 t232 _ A40.out).mono ?_); rintro e w' ⟨rfl, ⟨nd, rfl⟩⟩; refine ⟨_, rfl, ?_⟩; (try (rw [drewN_self wr]; generalize hq_ : World.drewN wr _ = wr; have n0_ : Aside0 (Kd.R k50 50 wr w.heap.size (fun _ => True) u215002 x215002_2) := ⟨by rw [← hq_]; exact (by (with_reducible repeat (first | apply Kd.R_alloc | apply Kd.R_drewN | apply Kd.R_drew)); exact HO_215002.out)⟩; have n1_ : Aside0 (wr.heap[gb213]? = some (.cells #[.string x214000_2, .string x214001_2, .slice none 0 0, .string x214003_2, .bool x214004_2] 25 (0, 0))) := ⟨by rw [← hq_]; exact (by (with_reducible repeat (first | refine blk_drewN ?_ _ | refine blk_drew ?_ | refine blk_alloc ?_ _)); exact BK213.out)⟩; have n2_ : Aside0 (wr.heap[gb214]? = some (.cells #[.string t218, .string t221, u215002, .string (⟨#[]⟩ : ByteArray), .bool false] 25 (0, 0))) := ⟨by rw [← hq_]; exact (by (with_reducible repeat (first | refine blk_drewN ?_ _ | refine blk_drew ?_ | refine blk_alloc ?_ _)); exact BK214.out)⟩; have n3_ : Aside0 (Below w.heap.size w wr) := ⟨by rw [← hq_]; exact (by repeat (first | (with_reducible first | exact HB.out | apply below_alloc | apply pw_below_drewN | apply below_drew1 | refine below_set ?_ GE213.out | refine below_set ?_ GE214.out) | exact HB.out))⟩; clear HO_215002 BK213 BK214 HB hq_; have HO_215002 := n0_; have BK213 := n1_; have BK214 := n2_; have HB := n3_; clear n0_ n1_ n2_ n3_))) | (go_at_call 40; (with_reducible refine (atriumref15_Token.calls k2 t229 true _ A42.out).mono ?_); rintro e w' ⟨rfl, ⟨nd, rfl⟩⟩; (try (rw [drewN_self wr]; generalize hq_ : World.drewN wr _ = wr; have n0_ : Aside0 (Kd.R k50 50 wr w.heap.size (fun _ => True) u215002 x215002_2) := ⟨by rw [← hq_]; exact (by (with_reducible repeat (first | apply Kd.R_alloc | apply Kd.R_drewN | apply Kd.R_drew)); exact HO_215002.out)⟩; have n1_ : Aside0 (wr.heap[gb213]? = some (.cells #[.string x214000_2, .string x214001_2, .slice none 0 0, .string x214003_2, .bool x214004_2] 25 (0, 0))) := ⟨by rw [← hq_]; exact (by (with_reducible repeat (first | refine blk_drewN ?_ _ | refine blk_drew ?_ | refine blk_alloc ?_ _)); exact BK213.out)⟩; have n2_ : Aside0 (wr.heap[gb214]? = some (.cells #[.string t218, .string t221, u215002, .string (⟨#[]⟩ : ByteArray), .bool false] 25 (0, 0))) := ⟨by rw [← hq_]; exact (by (with_reducible repeat (first | refine blk_drewN ?_ _ | refine blk_drew ?_ | refine blk_alloc ?_ _)); exact BK214.out)⟩; have n3_ : Aside0 (Below w.heap.size w wr) := ⟨by rw [← hq_]; exact (by repeat (first | (with_reducible first | exact HB.out | apply below_alloc | apply pw_below_drewN | apply below_drew1 | refine below_set ?_ GE213.out | refine below_set ?_ GE214.out) | exact HB.out))⟩; clear HO_215002 BK213 BK214 HB hq_; have HO_215002 := n0_; have BK213 := n1_; have BK214 := n2_; have HB := n3_; clear n0_ n1_ n2_ n3_))) | (go_at_call 41; (with_reducible refine (atriumref17_value.calls k2 t232 true _ A44.out).mono ?_); rintro e w' ⟨rfl, ⟨nd, rfl⟩⟩; (try (rw [drewN_self wr]; generalize hq_ : World.drewN wr _ = wr; have n0_ : Aside0 (Kd.R k50 50 wr w.heap.size (fun _ => True) u215002 x215002_2) := ⟨by rw [← hq_]; exact (by (with_reducible repeat (first | apply Kd.R_alloc | apply Kd.R_drewN | apply Kd.R_drew)); exact HO_215002.out)⟩; have n1_ : Aside0 (wr.heap[gb213]? = some (.cells #[.string x214000_2, .string x214001_2, .slice none 0 0, .string x214003_2, .bool x214004_2] 25 (0, 0))) := ⟨by rw [← hq_]; exact (by (with_reducible repeat (first | refine blk_drewN ?_ _ | refine blk_drew ?_ | refine blk_alloc ?_ _)); exact BK213.out)⟩; have n2_ : Aside0 (wr.heap[gb214]? = some (.cells #[.string t218, .string t221, u215002, .string (⟨#[]⟩ : ByteArray), .bool false] 25 (0, 0))) := ⟨by rw [← hq_]; exact (by (with_reducible repeat (first | refine blk_drewN ?_ _ | refine blk_drew ?_ | refine blk_alloc ?_ _)); exact BK214.out)⟩; have n3_ : Aside0 (Below w.heap.size w wr) := ⟨by rw [← hq_]; exact (by repeat (first | (with_reducible first | exact HB.out | apply below_alloc | apply pw_below_drewN | apply below_drew1 | refine below_set ?_ GE213.out | refine below_set ?_ GE214.out) | exact HB.out))⟩; clear HO_215002 BK213 BK214 HB hq_; have HO_215002 := n0_; have BK213 := n1_; have BK214 := n2_; have HB := n3_; clear n0_ n1_ n2_ n3_)); have hnb47 := NB214_213.out; have hnc47 := NB213_214.out; have hcz48_0 : wr.cell? ⟨gb214, 0, none⟩ = some (.string t218) := (blk_cell BK214.out 0).trans rfl; have hcz48_1 : wr.cell? ⟨gb214, 1, none⟩ = some (.string t221) := (blk_cell BK214.out 1).trans rfl; have hcz48_2 : wr.cell? ⟨gb214, 2, none⟩ = some (u215002) := (blk_cell BK214.out 2).trans rfl; have hcz48_3 : wr.cell? ⟨gb214, 3, none⟩ = some (.string (⟨#[]⟩ : ByteArray)) := (blk_cell BK214.out 3).trans rfl; have hcz48_4 : wr.cell? ⟨gb214, 4, none⟩ = some (.bool false) := (blk_cell BK214.out 4).trans rfl; have hfz48_0 := blk_frozen BK214.out 0; have hfz48_1 := blk_frozen BK214.out 1; have hfz48_2 := blk_frozen BK214.out 2; have hfz48_3 := blk_frozen BK214.out 3; have hfz48_4 := blk_frozen BK214.out 4) | ((with_reducible refine gate_builtin (b := .append) (xs := #[.tmp 93, .tmp 97]) rfl ?_); at_builtin; refine Kd.R_append k50 (w0 := w) w.heap.size rfl (.tmp 93) (.tmp 97) 23 50 (.agg #[(.string ⟨#[]⟩), (.string ⟨#[]⟩)]) 32 rfl Tryd.underlying23 info50 rfl (by decide) (by omega) u215002 x215002_2 (⟨t229, t232⟩ : S50) [.string t229, .string t232] (fun _ => True) (fun _ => False) rfl rfl ?aP (fun _ hk => hk.elim) ?aF ?aO ?aB ?aS ?aL ?_; (case aP => exact k50_mkM _ _ _ (⟨t229, t232⟩ : S50)); (case aB => exact (by repeat (first | (with_reducible first | exact HB.out | apply below_alloc | apply pw_below_drewN | apply below_drew1 | refine below_set ?_ GE213.out | refine below_set ?_ GE214.out) | exact HB.out))); (case aF => exact (fun _ _ => trivial)); (case aO => exact (by (with_reducible repeat (first | apply Kd.R_alloc | apply Kd.R_drewN | apply Kd.R_drew)); exact HO_215002.out)); (case aS => exact (below_size (by repeat (first | (with_reducible first | exact HB.out | apply below_alloc | apply pw_below_drewN | apply below_drew1 | refine below_set ?_ GE213.out | refine below_set ?_ GE214.out) | exact HB.out)))); (case aL => have := LMc46.out; omega); intro v236 w49 ho hb hg hat; rw [← Ny235.out] at ho; have n0_ := Aside0.mk (blk_grown (g := gb213) (o := .cells #[.string x214000_2, .string x214001_2, .slice none 0 0, .string x214003_2, .bool x214004_2] 25 (0, 0)) (by (with_reducible repeat (first | refine blk_drewN ?_ _ | refine blk_drew ?_ | refine blk_alloc ?_ _)); exact BK213.out) hg (Kd.R_ne HO_215002.out BK213.out (by decide))); have n1_ := Aside0.mk (blk_grown (g := gb214) (o := .cells #[.string t218, .string t221, u215002, .string (⟨#[]⟩ : ByteArray), .bool false] 25 (0, 0)) (by (with_reducible repeat (first | refine blk_drewN ?_ _ | refine blk_drew ?_ | refine blk_alloc ?_ _)); exact BK214.out) hg (Kd.R_ne HO_215002.out BK214.out (by decide))); have n2_ := Aside0.mk (hb); have n3_ := Aside0.mk (ho); clear BK213; clear BK214; clear HB; clear HO_215002; have BK213 := n0_; have BK214 := n1_; have HB := n2_; have HO237 := n3_; clear n0_ n1_ n2_ n3_; clear ho hb hg hat; obtain ⟨Ao50, co50, eo50⟩ := Kd.R_slice HO237.out; subst eo50; have hcz51_0 : w49.cell? ⟨gb214, 0, none⟩ = some (.string t218) := (blk_cell BK214.out 0).trans rfl; have hcz51_1 : w49.cell? ⟨gb214, 1, none⟩ = some (.string t221) := (blk_cell BK214.out 1).trans rfl; have hcz51_2 : w49.cell? ⟨gb214, 2, none⟩ = some (u215002) := (blk_cell BK214.out 2).trans rfl; have hcz51_3 : w49.cell? ⟨gb214, 3, none⟩ = some (.string (⟨#[]⟩ : ByteArray)) := (blk_cell BK214.out 3).trans rfl; have hcz51_4 : w49.cell? ⟨gb214, 4, none⟩ = some (.bool false) := (blk_cell BK214.out 4).trans rfl; have hfz51_0 := blk_frozen BK214.out 0; have hfz51_1 := blk_frozen BK214.out 1; have hfz51_2 := blk_frozen BK214.out 2; have hfz51_3 := blk_frozen BK214.out 3; have hfz51_4 := blk_frozen BK214.out 4))
                      go_roundg k2
                      case measure => have := HJ4.out; have := HK2.out; omega
                      case rel => exact ⟨(t227), (x214000_2), (x214001_2), (x214003_2), (x214004_2), (y235), (.slice Ao50 y235.length co50), (by first | rfl | (simp; done) | (simp [*]; done) | (simp <;> (generalize ByteArray.toList _ = l_; cases l_ <;> rfl))), H', ⟨by have := HJ4.out; have := HK2.out; omega⟩, ⟨by (with_reducible repeat (first | apply Kd.R_alloc | apply Kd.R_drewN | apply Kd.R_drew)); exact Kd.R_mono (Kd.R_far (p := ⟨gb214, 2, none⟩) (Kd.R_types HO237.out BK214.out (by decide)) (fun _ hk => hk.2) (.slice Ao50 y235.length co50)) (fun _ hk => trivial)⟩, ⟨by (with_reducible repeat (first | refine blk_drewN ?_ _ | refine blk_drew ?_ | refine blk_alloc ?_ _)); refine blk_far ?_ NB213_214.out _; (with_reducible repeat (first | refine blk_drewN ?_ _ | refine blk_drew ?_ | refine blk_alloc ?_ _)); exact BK213.out⟩, ⟨by (with_reducible repeat (first | refine blk_drewN ?_ _ | refine blk_drew ?_ | refine blk_alloc ?_ _)); refine blk_put (cs := #[.string t218, .string t221, u215002, .string (⟨#[]⟩ : ByteArray), .bool false]) ?_ 2 _ rfl; (with_reducible repeat (first | refine blk_drewN ?_ _ | refine blk_drew ?_ | refine blk_alloc ?_ _)); exact BK214.out⟩, ⟨by repeat (first | (with_reducible first | exact HB.out | apply below_alloc | apply pw_below_drewN | apply below_drew1 | refine below_set ?_ GE213.out | refine below_set ?_ GE214.out) | exact HB.out)⟩⟩
                    · rw [if_neg c46] at H
                      exact absurd H (by simp)
                  · replace c45 := Bool.eq_false_iff.mpr c45
                    subst c45
                    have H1 : (some (t218, t221, x215002_2, (⟨#[]⟩ : ByteArray), false, 170)) = some (r1, r2, r3, r4, r5, r6) := by rw [if_neg (show ¬ (false = true) by decide)] at H; exact H
                    clear H
                    have H := H1
                    clear H1
                    simp only [Option.some.injEq, Prod.mk.injEq] at H
                    obtain ⟨rfl, rfl, rfl, rfl, rfl, rfl⟩ := H
                    go_wp2_with (first | ((with_reducible refine gate_callee (f := 47) rfl ?_); refine goesL_ (some 65) rfl rfl Tryd.func47 (by kernel_rfl) rfl #[.string x6_2] rfl (by (try simp only [List.map_toArray, List.map_cons, List.map_nil]); first | done | rfl | (simp only [List.length_drop, List.length_take]; rfl)) ?_; (with_reducible refine (atriumref17_line.calls k2 x6_2 t226 t227 t228 _ A20.out).mono ?_); rintro e w' ⟨rfl, ⟨nd, rfl⟩⟩; refine ⟨_, rfl, ?_⟩; (try (rw [drewN_self wr]; generalize hq_ : World.drewN wr _ = wr; have n0_ : Aside0 (Kd.R k50 50 wr w.heap.size (fun _ => True) u215002 x215002_2) := ⟨by rw [← hq_]; exact (by (with_reducible repeat (first | apply Kd.R_alloc | apply Kd.R_drewN | apply Kd.R_drew)); exact HO_215002.out)⟩; have n1_ : Aside0 (wr.heap[gb213]? = some (.cells #[.string x214000_2, .string x214001_2, .slice none 0 0, .string x214003_2, .bool x214004_2] 25 (0, 0))) := ⟨by rw [← hq_]; exact (by (with_reducible repeat (first | refine blk_drewN ?_ _ | refine blk_drew ?_ | refine blk_alloc ?_ _)); exact BK213.out)⟩; have n2_ : Aside0 (wr.heap[gb214]? = some (.cells #[.string t218, .string t221, u215002, .string (⟨#[]⟩ : ByteArray), .bool false] 25 (0, 0))) := ⟨by rw [← hq_]; exact (by (with_reducible repeat (first | refine blk_drewN ?_ _ | refine blk_drew ?_ | refine blk_alloc ?_ _)); exact BK214.out)⟩; have n3_ : Aside0 (Below w.heap.size w wr) := ⟨by rw [← hq_]; exact (by repeat (first | (with_reducible first | exact HB.out | apply below_alloc | apply pw_below_drewN | apply below_drew1 | refine below_set ?_ GE213.out | refine below_set ?_ GE214.out) | exact HB.out))⟩; clear HO_215002 BK213 BK214 HB hq_; have HO_215002 := n0_; have BK213 := n1_; have BK214 := n2_; have HB := n3_; clear n0_ n1_ n2_ n3_))) | ((with_reducible refine gate_callee (f := 48) rfl ?_); refine goesL_ (some 73) rfl rfl Tryd.func48 (by kernel_rfl) rfl #[.string t226, .int .u8 58] rfl (by (try simp only [List.map_toArray, List.map_cons, List.map_nil]); first | done | rfl | (simp only [List.length_drop, List.length_take]; rfl)) ?_; (with_reducible refine (atriumref17_cut.calls k2 t226 58 t229 t230 true _ A39.out).mono ?_); rintro e w' ⟨rfl, ⟨nd, rfl⟩⟩; refine ⟨_, rfl, ?_⟩; (try (rw [drewN_self wr]; generalize hq_ : World.drewN wr _ = wr; have n0_ : Aside0 (Kd.R k50 50 wr w.heap.size (fun _ => True) u215002 x215002_2) := ⟨by rw [← hq_]; exact (by (with_reducible repeat (first | apply Kd.R_alloc | apply Kd.R_drewN | apply Kd.R_drew)); exact HO_215002.out)⟩; have n1_ : Aside0 (wr.heap[gb213]? = some (.cells #[.string x214000_2, .string x214001_2, .slice none 0 0, .string x214003_2, .bool x214004_2] 25 (0, 0))) := ⟨by rw [← hq_]; exact (by (with_reducible repeat (first | refine blk_drewN ?_ _ | refine blk_drew ?_ | refine blk_alloc ?_ _)); exact BK213.out)⟩; have n2_ : Aside0 (wr.heap[gb214]? = some (.cells #[.string t218, .string t221, u215002, .string (⟨#[]⟩ : ByteArray), .bool false] 25 (0, 0))) := ⟨by rw [← hq_]; exact (by (with_reducible repeat (first | refine blk_drewN ?_ _ | refine blk_drew ?_ | refine blk_alloc ?_ _)); exact BK214.out)⟩; have n3_ : Aside0 (Below w.heap.size w wr) := ⟨by rw [← hq_]; exact (by repeat (first | (with_reducible first | exact HB.out | apply below_alloc | apply pw_below_drewN | apply below_drew1 | refine below_set ?_ GE213.out | refine below_set ?_ GE214.out) | exact HB.out))⟩; clear HO_215002 BK213 BK214 HB hq_; have HO_215002 := n0_; have BK213 := n1_; have BK214 := n2_; have HB := n3_; clear n0_ n1_ n2_ n3_))) | ((with_reducible refine gate_callee (f := 42) rfl ?_); refine goesL_ (some 78) rfl rfl Tryd.func42 (by kernel_rfl) rfl #[.string t230] rfl (by (try simp only [List.map_toArray, List.map_cons, List.map_nil]); first | done | rfl | (simp only [List.length_drop, List.length_take]; rfl)) ?_; (with_reducible refine (atriumref15_Trim.calls k2 t230 t232 _ A40.out).mono ?_); rintro e w' ⟨rfl, ⟨nd, rfl⟩⟩; refine ⟨_, rfl, ?_⟩; (try (rw [drewN_self wr]; generalize hq_ : World.drewN wr _ = wr; have n0_ : Aside0 (Kd.R k50 50 wr w.heap.size (fun _ => True) u215002 x215002_2) := ⟨by rw [← hq_]; exact (by (with_reducible repeat (first | apply Kd.R_alloc | apply Kd.R_drewN | apply Kd.R_drew)); exact HO_215002.out)⟩; have n1_ : Aside0 (wr.heap[gb213]? = some (.cells #[.string x214000_2, .string x214001_2, .slice none 0 0, .string x214003_2, .bool x214004_2] 25 (0, 0))) := ⟨by rw [← hq_]; exact (by (with_reducible repeat (first | refine blk_drewN ?_ _ | refine blk_drew ?_ | refine blk_alloc ?_ _)); exact BK213.out)⟩; have n2_ : Aside0 (wr.heap[gb214]? = some (.cells #[.string t218, .string t221, u215002, .string (⟨#[]⟩ : ByteArray), .bool false] 25 (0, 0))) := ⟨by rw [← hq_]; exact (by (with_reducible repeat (first | refine blk_drewN ?_ _ | refine blk_drew ?_ | refine blk_alloc ?_ _)); exact BK214.out)⟩; have n3_ : Aside0 (Below w.heap.size w wr) := ⟨by rw [← hq_]; exact (by repeat (first | (with_reducible first | exact HB.out | apply below_alloc | apply pw_below_drewN | apply below_drew1 | refine below_set ?_ GE213.out | refine below_set ?_ GE214.out) | exact HB.out))⟩; clear HO_215002 BK213 BK214 HB hq_; have HO_215002 := n0_; have BK213 := n1_; have BK214 := n2_; have HB := n3_; clear n0_ n1_ n2_ n3_))) | (go_at_call 40; (with_reducible refine (atriumref15_Token.calls k2 t229 true _ A42.out).mono ?_); rintro e w' ⟨rfl, ⟨nd, rfl⟩⟩; (try (rw [drewN_self wr]; generalize hq_ : World.drewN wr _ = wr; have n0_ : Aside0 (Kd.R k50 50 wr w.heap.size (fun _ => True) u215002 x215002_2) := ⟨by rw [← hq_]; exact (by (with_reducible repeat (first | apply Kd.R_alloc | apply Kd.R_drewN | apply Kd.R_drew)); exact HO_215002.out)⟩; have n1_ : Aside0 (wr.heap[gb213]? = some (.cells #[.string x214000_2, .string x214001_2, .slice none 0 0, .string x214003_2, .bool x214004_2] 25 (0, 0))) := ⟨by rw [← hq_]; exact (by (with_reducible repeat (first | refine blk_drewN ?_ _ | refine blk_drew ?_ | refine blk_alloc ?_ _)); exact BK213.out)⟩; have n2_ : Aside0 (wr.heap[gb214]? = some (.cells #[.string t218, .string t221, u215002, .string (⟨#[]⟩ : ByteArray), .bool false] 25 (0, 0))) := ⟨by rw [← hq_]; exact (by (with_reducible repeat (first | refine blk_drewN ?_ _ | refine blk_drew ?_ | refine blk_alloc ?_ _)); exact BK214.out)⟩; have n3_ : Aside0 (Below w.heap.size w wr) := ⟨by rw [← hq_]; exact (by repeat (first | (with_reducible first | exact HB.out | apply below_alloc | apply pw_below_drewN | apply below_drew1 | refine below_set ?_ GE213.out | refine below_set ?_ GE214.out) | exact HB.out))⟩; clear HO_215002 BK213 BK214 HB hq_; have HO_215002 := n0_; have BK213 := n1_; have BK214 := n2_; have HB := n3_; clear n0_ n1_ n2_ n3_))) | (go_at_call 41; (with_reducible refine (atriumref17_value.calls k2 t232 false _ A44.out).mono ?_); rintro e w' ⟨rfl, ⟨nd, rfl⟩⟩; (try (rw [drewN_self wr]; generalize hq_ : World.drewN wr _ = wr; have n0_ : Aside0 (Kd.R k50 50 wr w.heap.size (fun _ => True) u215002 x215002_2) := ⟨by rw [← hq_]; exact (by (with_reducible repeat (first | apply Kd.R_alloc | apply Kd.R_drewN | apply Kd.R_drew)); exact HO_215002.out)⟩; have n1_ : Aside0 (wr.heap[gb213]? = some (.cells #[.string x214000_2, .string x214001_2, .slice none 0 0, .string x214003_2, .bool x214004_2] 25 (0, 0))) := ⟨by rw [← hq_]; exact (by (with_reducible repeat (first | refine blk_drewN ?_ _ | refine blk_drew ?_ | refine blk_alloc ?_ _)); exact BK213.out)⟩; have n2_ : Aside0 (wr.heap[gb214]? = some (.cells #[.string t218, .string t221, u215002, .string (⟨#[]⟩ : ByteArray), .bool false] 25 (0, 0))) := ⟨by rw [← hq_]; exact (by (with_reducible repeat (first | refine blk_drewN ?_ _ | refine blk_drew ?_ | refine blk_alloc ?_ _)); exact BK214.out)⟩; have n3_ : Aside0 (Below w.heap.size w wr) := ⟨by rw [← hq_]; exact (by repeat (first | (with_reducible first | exact HB.out | apply below_alloc | apply pw_below_drewN | apply below_drew1 | refine below_set ?_ GE213.out | refine below_set ?_ GE214.out) | exact HB.out))⟩; clear HO_215002 BK213 BK214 HB hq_; have HO_215002 := n0_; have BK213 := n1_; have BK214 := n2_; have HB := n3_; clear n0_ n1_ n2_ n3_)); have hnb52 := NB214_213.out; have hnc52 := NB213_214.out; have hcz53_0 : wr.cell? ⟨gb214, 0, none⟩ = some (.string t218) := (blk_cell BK214.out 0).trans rfl; have hcz53_1 : wr.cell? ⟨gb214, 1, none⟩ = some (.string t221) := (blk_cell BK214.out 1).trans rfl; have hcz53_2 : wr.cell? ⟨gb214, 2, none⟩ = some (u215002) := (blk_cell BK214.out 2).trans rfl; have hcz53_3 : wr.cell? ⟨gb214, 3, none⟩ = some (.string (⟨#[]⟩ : ByteArray)) := (blk_cell BK214.out 3).trans rfl; have hcz53_4 : wr.cell? ⟨gb214, 4, none⟩ = some (.bool false) := (blk_cell BK214.out 4).trans rfl; have hfz53_0 := blk_frozen BK214.out 0; have hfz53_1 := blk_frozen BK214.out 1; have hfz53_2 := blk_frozen BK214.out 2; have hfz53_3 := blk_frozen BK214.out 3; have hfz53_4 := blk_frozen BK214.out 4; have hcz54_0 : wr.cell? ⟨gb213, 0, none⟩ = some (.string x214000_2) := (blk_cell BK213.out 0).trans rfl; have hcz54_1 : wr.cell? ⟨gb213, 1, none⟩ = some (.string x214001_2) := (blk_cell BK213.out 1).trans rfl; have hcz54_2 : wr.cell? ⟨gb213, 2, none⟩ = some (.slice none 0 0) := (blk_cell BK213.out 2).trans rfl; have hcz54_3 : wr.cell? ⟨gb213, 3, none⟩ = some (.string x214003_2) := (blk_cell BK213.out 3).trans rfl; have hcz54_4 : wr.cell? ⟨gb213, 4, none⟩ = some (.bool x214004_2) := (blk_cell BK213.out 4).trans rfl; have hfz54_0 := blk_frozen BK213.out 0; have hfz54_1 := blk_frozen BK213.out 1; have hfz54_2 := blk_frozen BK213.out 2; have hfz54_3 := blk_frozen BK213.out 3; have hfz54_4 := blk_frozen BK213.out 4; obtain ⟨Ao55, co55, eo55⟩ := Kd.R_slice HO_215002.out; subst eo55))
                    refine bodyPost_ret (results_ct rfl _ _ gb213 25 #[.string t218, .string t221, .slice Ao55 x215002_2.length co55, .string (⟨#[]⟩ : ByteArray), .bool false] (0, 0) _ rfl (by (with_reducible repeat (first | refine blk_drewN ?_ _ | refine blk_drew ?_ | refine blk_alloc ?_ _)); refine blk_put (cs := #[.string t218, .string t221, .slice Ao55 x215002_2.length co55, .string (⟨#[]⟩ : ByteArray), .bool x214004_2]) ?_ 4 _ rfl; (with_reducible repeat (first | refine blk_drewN ?_ _ | refine blk_drew ?_ | refine blk_alloc ?_ _)); refine blk_put (cs := #[.string t218, .string t221, .slice Ao55 x215002_2.length co55, .string x214003_2, .bool x214004_2]) ?_ 3 _ rfl; (with_reducible repeat (first | refine blk_drewN ?_ _ | refine blk_drew ?_ | refine blk_alloc ?_ _)); refine blk_put (cs := #[.string t218, .string t221, .slice none 0 0, .string x214003_2, .bool x214004_2]) ?_ 2 _ rfl; (with_reducible repeat (first | refine blk_drewN ?_ _ | refine blk_drew ?_ | refine blk_alloc ?_ _)); refine blk_put (cs := #[.string t218, .string x214001_2, .slice none 0 0, .string x214003_2, .bool x214004_2]) ?_ 1 _ rfl; (with_reducible repeat (first | refine blk_drewN ?_ _ | refine blk_drew ?_ | refine blk_alloc ?_ _)); refine blk_put (cs := #[.string x214000_2, .string x214001_2, .slice none 0 0, .string x214003_2, .bool x214004_2]) ?_ 0 _ rfl; (with_reducible repeat (first | refine blk_drewN ?_ _ | refine blk_drew ?_ | refine blk_alloc ?_ _)); exact BK213.out) Tryd.underlying25 rfl (by kernel_rfl)) rfl ?_
                    exact ⟨_, by first | rfl | (simp [errW_none, errW_some] <;> rfl) | (simp [*, errW_none, errW_some] <;> rfl), by (with_reducible repeat (first | apply Kd.R_alloc | apply Kd.R_drewN | apply Kd.R_drew)); exact Kd.R_mono (Kd.R_far (p := ⟨gb213, 4, none⟩) (Kd.R_far (p := ⟨gb213, 3, none⟩) (Kd.R_far (p := ⟨gb213, 2, none⟩) (Kd.R_far (p := ⟨gb213, 1, none⟩) (Kd.R_far (p := ⟨gb213, 0, none⟩) (Kd.R_types HO_215002.out BK213.out (by decide)) (fun _ hk => hk.2) (.string t218)) (fun _ hk => hk.2) (.string t221)) (fun _ hk => hk.2) (.slice Ao55 x215002_2.length co55)) (fun _ hk => hk.2) (.string (⟨#[]⟩ : ByteArray))) (fun _ hk => hk.2) (.bool false)) (fun _ hk => trivial), by repeat (first | (with_reducible first | exact HB.out | apply below_alloc | apply pw_below_drewN | apply below_drew1 | refine below_set ?_ GE213.out | refine below_set ?_ GE214.out) | exact HB.out)⟩
                · replace c43 := Bool.eq_false_iff.mpr c43
                  subst c43
                  have H1 : (some (t218, t221, x215002_2, (⟨#[]⟩ : ByteArray), false, 170)) = some (r1, r2, r3, r4, r5, r6) := by rw [if_neg (show ¬ (false = true) by decide)] at H; exact H
                  clear H
                  have H := H1
                  clear H1
                  simp only [Option.some.injEq, Prod.mk.injEq] at H
                  obtain ⟨rfl, rfl, rfl, rfl, rfl, rfl⟩ := H
                  go_wp2_with (first | ((with_reducible refine gate_callee (f := 47) rfl ?_); refine goesL_ (some 65) rfl rfl Tryd.func47 (by kernel_rfl) rfl #[.string x6_2] rfl (by (try simp only [List.map_toArray, List.map_cons, List.map_nil]); first | done | rfl | (simp only [List.length_drop, List.length_take]; rfl)) ?_; (with_reducible refine (atriumref17_line.calls k2 x6_2 t226 t227 t228 _ A20.out).mono ?_); rintro e w' ⟨rfl, ⟨nd, rfl⟩⟩; refine ⟨_, rfl, ?_⟩; (try (rw [drewN_self wr]; generalize hq_ : World.drewN wr _ = wr; have n0_ : Aside0 (Kd.R k50 50 wr w.heap.size (fun _ => True) u215002 x215002_2) := ⟨by rw [← hq_]; exact (by (with_reducible repeat (first | apply Kd.R_alloc | apply Kd.R_drewN | apply Kd.R_drew)); exact HO_215002.out)⟩; have n1_ : Aside0 (wr.heap[gb213]? = some (.cells #[.string x214000_2, .string x214001_2, .slice none 0 0, .string x214003_2, .bool x214004_2] 25 (0, 0))) := ⟨by rw [← hq_]; exact (by (with_reducible repeat (first | refine blk_drewN ?_ _ | refine blk_drew ?_ | refine blk_alloc ?_ _)); exact BK213.out)⟩; have n2_ : Aside0 (wr.heap[gb214]? = some (.cells #[.string t218, .string t221, u215002, .string (⟨#[]⟩ : ByteArray), .bool false] 25 (0, 0))) := ⟨by rw [← hq_]; exact (by (with_reducible repeat (first | refine blk_drewN ?_ _ | refine blk_drew ?_ | refine blk_alloc ?_ _)); exact BK214.out)⟩; have n3_ : Aside0 (Below w.heap.size w wr) := ⟨by rw [← hq_]; exact (by repeat (first | (with_reducible first | exact HB.out | apply below_alloc | apply pw_below_drewN | apply below_drew1 | refine below_set ?_ GE213.out | refine below_set ?_ GE214.out) | exact HB.out))⟩; clear HO_215002 BK213 BK214 HB hq_; have HO_215002 := n0_; have BK213 := n1_; have BK214 := n2_; have HB := n3_; clear n0_ n1_ n2_ n3_))) | ((with_reducible refine gate_callee (f := 48) rfl ?_); refine goesL_ (some 73) rfl rfl Tryd.func48 (by kernel_rfl) rfl #[.string t226, .int .u8 58] rfl (by (try simp only [List.map_toArray, List.map_cons, List.map_nil]); first | done | rfl | (simp only [List.length_drop, List.length_take]; rfl)) ?_; (with_reducible refine (atriumref17_cut.calls k2 t226 58 t229 t230 true _ A39.out).mono ?_); rintro e w' ⟨rfl, ⟨nd, rfl⟩⟩; refine ⟨_, rfl, ?_⟩; (try (rw [drewN_self wr]; generalize hq_ : World.drewN wr _ = wr; have n0_ : Aside0 (Kd.R k50 50 wr w.heap.size (fun _ => True) u215002 x215002_2) := ⟨by rw [← hq_]; exact (by (with_reducible repeat (first | apply Kd.R_alloc | apply Kd.R_drewN | apply Kd.R_drew)); exact HO_215002.out)⟩; have n1_ : Aside0 (wr.heap[gb213]? = some (.cells #[.string x214000_2, .string x214001_2, .slice none 0 0, .string x214003_2, .bool x214004_2] 25 (0, 0))) := ⟨by rw [← hq_]; exact (by (with_reducible repeat (first | refine blk_drewN ?_ _ | refine blk_drew ?_ | refine blk_alloc ?_ _)); exact BK213.out)⟩; have n2_ : Aside0 (wr.heap[gb214]? = some (.cells #[.string t218, .string t221, u215002, .string (⟨#[]⟩ : ByteArray), .bool false] 25 (0, 0))) := ⟨by rw [← hq_]; exact (by (with_reducible repeat (first | refine blk_drewN ?_ _ | refine blk_drew ?_ | refine blk_alloc ?_ _)); exact BK214.out)⟩; have n3_ : Aside0 (Below w.heap.size w wr) := ⟨by rw [← hq_]; exact (by repeat (first | (with_reducible first | exact HB.out | apply below_alloc | apply pw_below_drewN | apply below_drew1 | refine below_set ?_ GE213.out | refine below_set ?_ GE214.out) | exact HB.out))⟩; clear HO_215002 BK213 BK214 HB hq_; have HO_215002 := n0_; have BK213 := n1_; have BK214 := n2_; have HB := n3_; clear n0_ n1_ n2_ n3_))) | ((with_reducible refine gate_callee (f := 42) rfl ?_); refine goesL_ (some 78) rfl rfl Tryd.func42 (by kernel_rfl) rfl #[.string t230] rfl (by (try simp only [List.map_toArray, List.map_cons, List.map_nil]); first | done | rfl | (simp only [List.length_drop, List.length_take]; rfl)) ?_; (with_reducible refine (atriumref15_Trim.calls k2 t230 t232 _ A40.out).mono ?_); rintro e w' ⟨rfl, ⟨nd, rfl⟩⟩; refine ⟨_, rfl, ?_⟩; (try (rw [drewN_self wr]; generalize hq_ : World.drewN wr _ = wr; have n0_ : Aside0 (Kd.R k50 50 wr w.heap.size (fun _ => True) u215002 x215002_2) := ⟨by rw [← hq_]; exact (by (with_reducible repeat (first | apply Kd.R_alloc | apply Kd.R_drewN | apply Kd.R_drew)); exact HO_215002.out)⟩; have n1_ : Aside0 (wr.heap[gb213]? = some (.cells #[.string x214000_2, .string x214001_2, .slice none 0 0, .string x214003_2, .bool x214004_2] 25 (0, 0))) := ⟨by rw [← hq_]; exact (by (with_reducible repeat (first | refine blk_drewN ?_ _ | refine blk_drew ?_ | refine blk_alloc ?_ _)); exact BK213.out)⟩; have n2_ : Aside0 (wr.heap[gb214]? = some (.cells #[.string t218, .string t221, u215002, .string (⟨#[]⟩ : ByteArray), .bool false] 25 (0, 0))) := ⟨by rw [← hq_]; exact (by (with_reducible repeat (first | refine blk_drewN ?_ _ | refine blk_drew ?_ | refine blk_alloc ?_ _)); exact BK214.out)⟩; have n3_ : Aside0 (Below w.heap.size w wr) := ⟨by rw [← hq_]; exact (by repeat (first | (with_reducible first | exact HB.out | apply below_alloc | apply pw_below_drewN | apply below_drew1 | refine below_set ?_ GE213.out | refine below_set ?_ GE214.out) | exact HB.out))⟩; clear HO_215002 BK213 BK214 HB hq_; have HO_215002 := n0_; have BK213 := n1_; have BK214 := n2_; have HB := n3_; clear n0_ n1_ n2_ n3_))) | (go_at_call 40; (with_reducible refine (atriumref15_Token.calls k2 t229 false _ A42.out).mono ?_); rintro e w' ⟨rfl, ⟨nd, rfl⟩⟩; (try (rw [drewN_self wr]; generalize hq_ : World.drewN wr _ = wr; have n0_ : Aside0 (Kd.R k50 50 wr w.heap.size (fun _ => True) u215002 x215002_2) := ⟨by rw [← hq_]; exact (by (with_reducible repeat (first | apply Kd.R_alloc | apply Kd.R_drewN | apply Kd.R_drew)); exact HO_215002.out)⟩; have n1_ : Aside0 (wr.heap[gb213]? = some (.cells #[.string x214000_2, .string x214001_2, .slice none 0 0, .string x214003_2, .bool x214004_2] 25 (0, 0))) := ⟨by rw [← hq_]; exact (by (with_reducible repeat (first | refine blk_drewN ?_ _ | refine blk_drew ?_ | refine blk_alloc ?_ _)); exact BK213.out)⟩; have n2_ : Aside0 (wr.heap[gb214]? = some (.cells #[.string t218, .string t221, u215002, .string (⟨#[]⟩ : ByteArray), .bool false] 25 (0, 0))) := ⟨by rw [← hq_]; exact (by (with_reducible repeat (first | refine blk_drewN ?_ _ | refine blk_drew ?_ | refine blk_alloc ?_ _)); exact BK214.out)⟩; have n3_ : Aside0 (Below w.heap.size w wr) := ⟨by rw [← hq_]; exact (by repeat (first | (with_reducible first | exact HB.out | apply below_alloc | apply pw_below_drewN | apply below_drew1 | refine below_set ?_ GE213.out | refine below_set ?_ GE214.out) | exact HB.out))⟩; clear HO_215002 BK213 BK214 HB hq_; have HO_215002 := n0_; have BK213 := n1_; have BK214 := n2_; have HB := n3_; clear n0_ n1_ n2_ n3_)); have hnb56 := NB214_213.out; have hnc56 := NB213_214.out; have hcz57_0 : wr.cell? ⟨gb214, 0, none⟩ = some (.string t218) := (blk_cell BK214.out 0).trans rfl; have hcz57_1 : wr.cell? ⟨gb214, 1, none⟩ = some (.string t221) := (blk_cell BK214.out 1).trans rfl; have hcz57_2 : wr.cell? ⟨gb214, 2, none⟩ = some (u215002) := (blk_cell BK214.out 2).trans rfl; have hcz57_3 : wr.cell? ⟨gb214, 3, none⟩ = some (.string (⟨#[]⟩ : ByteArray)) := (blk_cell BK214.out 3).trans rfl; have hcz57_4 : wr.cell? ⟨gb214, 4, none⟩ = some (.bool false) := (blk_cell BK214.out 4).trans rfl; have hfz57_0 := blk_frozen BK214.out 0; have hfz57_1 := blk_frozen BK214.out 1; have hfz57_2 := blk_frozen BK214.out 2; have hfz57_3 := blk_frozen BK214.out 3; have hfz57_4 := blk_frozen BK214.out 4; have hcz58_0 : wr.cell? ⟨gb213, 0, none⟩ = some (.string x214000_2) := (blk_cell BK213.out 0).trans rfl; have hcz58_1 : wr.cell? ⟨gb213, 1, none⟩ = some (.string x214001_2) := (blk_cell BK213.out 1).trans rfl; have hcz58_2 : wr.cell? ⟨gb213, 2, none⟩ = some (.slice none 0 0) := (blk_cell BK213.out 2).trans rfl; have hcz58_3 : wr.cell? ⟨gb213, 3, none⟩ = some (.string x214003_2) := (blk_cell BK213.out 3).trans rfl; have hcz58_4 : wr.cell? ⟨gb213, 4, none⟩ = some (.bool x214004_2) := (blk_cell BK213.out 4).trans rfl; have hfz58_0 := blk_frozen BK213.out 0; have hfz58_1 := blk_frozen BK213.out 1; have hfz58_2 := blk_frozen BK213.out 2; have hfz58_3 := blk_frozen BK213.out 3; have hfz58_4 := blk_frozen BK213.out 4; obtain ⟨Ao59, co59, eo59⟩ := Kd.R_slice HO_215002.out; subst eo59))
                  refine bodyPost_ret (results_ct rfl _ _ gb213 25 #[.string t218, .string t221, .slice Ao59 x215002_2.length co59, .string (⟨#[]⟩ : ByteArray), .bool false] (0, 0) _ rfl (by (with_reducible repeat (first | refine blk_drewN ?_ _ | refine blk_drew ?_ | refine blk_alloc ?_ _)); refine blk_put (cs := #[.string t218, .string t221, .slice Ao59 x215002_2.length co59, .string (⟨#[]⟩ : ByteArray), .bool x214004_2]) ?_ 4 _ rfl; (with_reducible repeat (first | refine blk_drewN ?_ _ | refine blk_drew ?_ | refine blk_alloc ?_ _)); refine blk_put (cs := #[.string t218, .string t221, .slice Ao59 x215002_2.length co59, .string x214003_2, .bool x214004_2]) ?_ 3 _ rfl; (with_reducible repeat (first | refine blk_drewN ?_ _ | refine blk_drew ?_ | refine blk_alloc ?_ _)); refine blk_put (cs := #[.string t218, .string t221, .slice none 0 0, .string x214003_2, .bool x214004_2]) ?_ 2 _ rfl; (with_reducible repeat (first | refine blk_drewN ?_ _ | refine blk_drew ?_ | refine blk_alloc ?_ _)); refine blk_put (cs := #[.string t218, .string x214001_2, .slice none 0 0, .string x214003_2, .bool x214004_2]) ?_ 1 _ rfl; (with_reducible repeat (first | refine blk_drewN ?_ _ | refine blk_drew ?_ | refine blk_alloc ?_ _)); refine blk_put (cs := #[.string x214000_2, .string x214001_2, .slice none 0 0, .string x214003_2, .bool x214004_2]) ?_ 0 _ rfl; (with_reducible repeat (first | refine blk_drewN ?_ _ | refine blk_drew ?_ | refine blk_alloc ?_ _)); exact BK213.out) Tryd.underlying25 rfl (by kernel_rfl)) rfl ?_
                  exact ⟨_, by first | rfl | (simp [errW_none, errW_some] <;> rfl) | (simp [*, errW_none, errW_some] <;> rfl), by (with_reducible repeat (first | apply Kd.R_alloc | apply Kd.R_drewN | apply Kd.R_drew)); exact Kd.R_mono (Kd.R_far (p := ⟨gb213, 4, none⟩) (Kd.R_far (p := ⟨gb213, 3, none⟩) (Kd.R_far (p := ⟨gb213, 2, none⟩) (Kd.R_far (p := ⟨gb213, 1, none⟩) (Kd.R_far (p := ⟨gb213, 0, none⟩) (Kd.R_types HO_215002.out BK213.out (by decide)) (fun _ hk => hk.2) (.string t218)) (fun _ hk => hk.2) (.string t221)) (fun _ hk => hk.2) (.slice Ao59 x215002_2.length co59)) (fun _ hk => hk.2) (.string (⟨#[]⟩ : ByteArray))) (fun _ hk => hk.2) (.bool false)) (fun _ hk => trivial), by repeat (first | (with_reducible first | exact HB.out | apply below_alloc | apply pw_below_drewN | apply below_drew1 | refine below_set ?_ GE213.out | refine below_set ?_ GE214.out) | exact HB.out)⟩
              · replace c41 := Bool.eq_false_iff.mpr c41
                subst c41
                have H1 : (some (t218, t221, x215002_2, (⟨#[]⟩ : ByteArray), false, 170)) = some (r1, r2, r3, r4, r5, r6) := by rw [if_neg (show ¬ (false = true) by decide)] at H; exact H
                clear H
                have H := H1
                clear H1
                simp only [Option.some.injEq, Prod.mk.injEq] at H
                obtain ⟨rfl, rfl, rfl, rfl, rfl, rfl⟩ := H
                go_wp2_with (first | ((with_reducible refine gate_callee (f := 47) rfl ?_); refine goesL_ (some 65) rfl rfl Tryd.func47 (by kernel_rfl) rfl #[.string x6_2] rfl (by (try simp only [List.map_toArray, List.map_cons, List.map_nil]); first | done | rfl | (simp only [List.length_drop, List.length_take]; rfl)) ?_; (with_reducible refine (atriumref17_line.calls k2 x6_2 t226 t227 t228 _ A20.out).mono ?_); rintro e w' ⟨rfl, ⟨nd, rfl⟩⟩; refine ⟨_, rfl, ?_⟩; (try (rw [drewN_self wr]; generalize hq_ : World.drewN wr _ = wr; have n0_ : Aside0 (Kd.R k50 50 wr w.heap.size (fun _ => True) u215002 x215002_2) := ⟨by rw [← hq_]; exact (by (with_reducible repeat (first | apply Kd.R_alloc | apply Kd.R_drewN | apply Kd.R_drew)); exact HO_215002.out)⟩; have n1_ : Aside0 (wr.heap[gb213]? = some (.cells #[.string x214000_2, .string x214001_2, .slice none 0 0, .string x214003_2, .bool x214004_2] 25 (0, 0))) := ⟨by rw [← hq_]; exact (by (with_reducible repeat (first | refine blk_drewN ?_ _ | refine blk_drew ?_ | refine blk_alloc ?_ _)); exact BK213.out)⟩; have n2_ : Aside0 (wr.heap[gb214]? = some (.cells #[.string t218, .string t221, u215002, .string (⟨#[]⟩ : ByteArray), .bool false] 25 (0, 0))) := ⟨by rw [← hq_]; exact (by (with_reducible repeat (first | refine blk_drewN ?_ _ | refine blk_drew ?_ | refine blk_alloc ?_ _)); exact BK214.out)⟩; have n3_ : Aside0 (Below w.heap.size w wr) := ⟨by rw [← hq_]; exact (by repeat (first | (with_reducible first | exact HB.out | apply below_alloc | apply pw_below_drewN | apply below_drew1 | refine below_set ?_ GE213.out | refine below_set ?_ GE214.out) | exact HB.out))⟩; clear HO_215002 BK213 BK214 HB hq_; have HO_215002 := n0_; have BK213 := n1_; have BK214 := n2_; have HB := n3_; clear n0_ n1_ n2_ n3_))) | ((with_reducible refine gate_callee (f := 48) rfl ?_); refine goesL_ (some 73) rfl rfl Tryd.func48 (by kernel_rfl) rfl #[.string t226, .int .u8 58] rfl (by (try simp only [List.map_toArray, List.map_cons, List.map_nil]); first | done | rfl | (simp only [List.length_drop, List.length_take]; rfl)) ?_; (with_reducible refine (atriumref17_cut.calls k2 t226 58 t229 t230 false _ A39.out).mono ?_); rintro e w' ⟨rfl, ⟨nd, rfl⟩⟩; refine ⟨_, rfl, ?_⟩; (try (rw [drewN_self wr]; generalize hq_ : World.drewN wr _ = wr; have n0_ : Aside0 (Kd.R k50 50 wr w.heap.size (fun _ => True) u215002 x215002_2) := ⟨by rw [← hq_]; exact (by (with_reducible repeat (first | apply Kd.R_alloc | apply Kd.R_drewN | apply Kd.R_drew)); exact HO_215002.out)⟩; have n1_ : Aside0 (wr.heap[gb213]? = some (.cells #[.string x214000_2, .string x214001_2, .slice none 0 0, .string x214003_2, .bool x214004_2] 25 (0, 0))) := ⟨by rw [← hq_]; exact (by (with_reducible repeat (first | refine blk_drewN ?_ _ | refine blk_drew ?_ | refine blk_alloc ?_ _)); exact BK213.out)⟩; have n2_ : Aside0 (wr.heap[gb214]? = some (.cells #[.string t218, .string t221, u215002, .string (⟨#[]⟩ : ByteArray), .bool false] 25 (0, 0))) := ⟨by rw [← hq_]; exact (by (with_reducible repeat (first | refine blk_drewN ?_ _ | refine blk_drew ?_ | refine blk_alloc ?_ _)); exact BK214.out)⟩; have n3_ : Aside0 (Below w.heap.size w wr) := ⟨by rw [← hq_]; exact (by repeat (first | (with_reducible first | exact HB.out | apply below_alloc | apply pw_below_drewN | apply below_drew1 | refine below_set ?_ GE213.out | refine below_set ?_ GE214.out) | exact HB.out))⟩; clear HO_215002 BK213 BK214 HB hq_; have HO_215002 := n0_; have BK213 := n1_; have BK214 := n2_; have HB := n3_; clear n0_ n1_ n2_ n3_))) | ((with_reducible refine gate_callee (f := 42) rfl ?_); refine goesL_ (some 78) rfl rfl Tryd.func42 (by kernel_rfl) rfl #[.string t230] rfl (by (try simp only [List.map_toArray, List.map_cons, List.map_nil]); first | done | rfl | (simp only [List.length_drop, List.length_take]; rfl)) ?_; (with_reducible refine (atriumref15_Trim.calls k2 t230 t232 _ A40.out).mono ?_); rintro e w' ⟨rfl, ⟨nd, rfl⟩⟩; refine ⟨_, rfl, ?_⟩; (try (rw [drewN_self wr]; generalize hq_ : World.drewN wr _ = wr; have n0_ : Aside0 (Kd.R k50 50 wr w.heap.size (fun _ => True) u215002 x215002_2) := ⟨by rw [← hq_]; exact (by (with_reducible repeat (first | apply Kd.R_alloc | apply Kd.R_drewN | apply Kd.R_drew)); exact HO_215002.out)⟩; have n1_ : Aside0 (wr.heap[gb213]? = some (.cells #[.string x214000_2, .string x214001_2, .slice none 0 0, .string x214003_2, .bool x214004_2] 25 (0, 0))) := ⟨by rw [← hq_]; exact (by (with_reducible repeat (first | refine blk_drewN ?_ _ | refine blk_drew ?_ | refine blk_alloc ?_ _)); exact BK213.out)⟩; have n2_ : Aside0 (wr.heap[gb214]? = some (.cells #[.string t218, .string t221, u215002, .string (⟨#[]⟩ : ByteArray), .bool false] 25 (0, 0))) := ⟨by rw [← hq_]; exact (by (with_reducible repeat (first | refine blk_drewN ?_ _ | refine blk_drew ?_ | refine blk_alloc ?_ _)); exact BK214.out)⟩; have n3_ : Aside0 (Below w.heap.size w wr) := ⟨by rw [← hq_]; exact (by repeat (first | (with_reducible first | exact HB.out | apply below_alloc | apply pw_below_drewN | apply below_drew1 | refine below_set ?_ GE213.out | refine below_set ?_ GE214.out) | exact HB.out))⟩; clear HO_215002 BK213 BK214 HB hq_; have HO_215002 := n0_; have BK213 := n1_; have BK214 := n2_; have HB := n3_; clear n0_ n1_ n2_ n3_)); have hnb60 := NB214_213.out; have hnc60 := NB213_214.out; have hcz61_0 : wr.cell? ⟨gb214, 0, none⟩ = some (.string t218) := (blk_cell BK214.out 0).trans rfl; have hcz61_1 : wr.cell? ⟨gb214, 1, none⟩ = some (.string t221) := (blk_cell BK214.out 1).trans rfl; have hcz61_2 : wr.cell? ⟨gb214, 2, none⟩ = some (u215002) := (blk_cell BK214.out 2).trans rfl; have hcz61_3 : wr.cell? ⟨gb214, 3, none⟩ = some (.string (⟨#[]⟩ : ByteArray)) := (blk_cell BK214.out 3).trans rfl; have hcz61_4 : wr.cell? ⟨gb214, 4, none⟩ = some (.bool false) := (blk_cell BK214.out 4).trans rfl; have hfz61_0 := blk_frozen BK214.out 0; have hfz61_1 := blk_frozen BK214.out 1; have hfz61_2 := blk_frozen BK214.out 2; have hfz61_3 := blk_frozen BK214.out 3; have hfz61_4 := blk_frozen BK214.out 4; have hcz62_0 : wr.cell? ⟨gb213, 0, none⟩ = some (.string x214000_2) := (blk_cell BK213.out 0).trans rfl; have hcz62_1 : wr.cell? ⟨gb213, 1, none⟩ = some (.string x214001_2) := (blk_cell BK213.out 1).trans rfl; have hcz62_2 : wr.cell? ⟨gb213, 2, none⟩ = some (.slice none 0 0) := (blk_cell BK213.out 2).trans rfl; have hcz62_3 : wr.cell? ⟨gb213, 3, none⟩ = some (.string x214003_2) := (blk_cell BK213.out 3).trans rfl; have hcz62_4 : wr.cell? ⟨gb213, 4, none⟩ = some (.bool x214004_2) := (blk_cell BK213.out 4).trans rfl; have hfz62_0 := blk_frozen BK213.out 0; have hfz62_1 := blk_frozen BK213.out 1; have hfz62_2 := blk_frozen BK213.out 2; have hfz62_3 := blk_frozen BK213.out 3; have hfz62_4 := blk_frozen BK213.out 4; obtain ⟨Ao63, co63, eo63⟩ := Kd.R_slice HO_215002.out; subst eo63))
                refine bodyPost_ret (results_ct rfl _ _ gb213 25 #[.string t218, .string t221, .slice Ao63 x215002_2.length co63, .string (⟨#[]⟩ : ByteArray), .bool false] (0, 0) _ rfl (by (with_reducible repeat (first | refine blk_drewN ?_ _ | refine blk_drew ?_ | refine blk_alloc ?_ _)); refine blk_put (cs := #[.string t218, .string t221, .slice Ao63 x215002_2.length co63, .string (⟨#[]⟩ : ByteArray), .bool x214004_2]) ?_ 4 _ rfl; (with_reducible repeat (first | refine blk_drewN ?_ _ | refine blk_drew ?_ | refine blk_alloc ?_ _)); refine blk_put (cs := #[.string t218, .string t221, .slice Ao63 x215002_2.length co63, .string x214003_2, .bool x214004_2]) ?_ 3 _ rfl; (with_reducible repeat (first | refine blk_drewN ?_ _ | refine blk_drew ?_ | refine blk_alloc ?_ _)); refine blk_put (cs := #[.string t218, .string t221, .slice none 0 0, .string x214003_2, .bool x214004_2]) ?_ 2 _ rfl; (with_reducible repeat (first | refine blk_drewN ?_ _ | refine blk_drew ?_ | refine blk_alloc ?_ _)); refine blk_put (cs := #[.string t218, .string x214001_2, .slice none 0 0, .string x214003_2, .bool x214004_2]) ?_ 1 _ rfl; (with_reducible repeat (first | refine blk_drewN ?_ _ | refine blk_drew ?_ | refine blk_alloc ?_ _)); refine blk_put (cs := #[.string x214000_2, .string x214001_2, .slice none 0 0, .string x214003_2, .bool x214004_2]) ?_ 0 _ rfl; (with_reducible repeat (first | refine blk_drewN ?_ _ | refine blk_drew ?_ | refine blk_alloc ?_ _)); exact BK213.out) Tryd.underlying25 rfl (by kernel_rfl)) rfl ?_
                exact ⟨_, by first | rfl | (simp [errW_none, errW_some] <;> rfl) | (simp [*, errW_none, errW_some] <;> rfl), by (with_reducible repeat (first | apply Kd.R_alloc | apply Kd.R_drewN | apply Kd.R_drew)); exact Kd.R_mono (Kd.R_far (p := ⟨gb213, 4, none⟩) (Kd.R_far (p := ⟨gb213, 3, none⟩) (Kd.R_far (p := ⟨gb213, 2, none⟩) (Kd.R_far (p := ⟨gb213, 1, none⟩) (Kd.R_far (p := ⟨gb213, 0, none⟩) (Kd.R_types HO_215002.out BK213.out (by decide)) (fun _ hk => hk.2) (.string t218)) (fun _ hk => hk.2) (.string t221)) (fun _ hk => hk.2) (.slice Ao63 x215002_2.length co63)) (fun _ hk => hk.2) (.string (⟨#[]⟩ : ByteArray))) (fun _ hk => hk.2) (.bool false)) (fun _ hk => trivial), by repeat (first | (with_reducible first | exact HB.out | apply below_alloc | apply pw_below_drewN | apply below_drew1 | refine below_set ?_ GE213.out | refine below_set ?_ GE214.out) | exact HB.out)⟩

end Go.Proofs.YtckbcnmcnhahhaaDoor.PG
