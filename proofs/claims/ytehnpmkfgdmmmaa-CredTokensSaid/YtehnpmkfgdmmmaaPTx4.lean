-- Written by xprint.py, a program of this session, over the kit's print (functions walked by hand are taken as given); Lean checks it.
import Derived.Test.YtehnpmkfgdmmmaaPTx0
import Derived.Test.YtehnpmkfgdmmmaaPTx2
import Derived.Test.YtehnpmkfgdmmmaaPTx3
namespace Go.Proofs.Ytehnpmkfgdmmmaa.PT
open Go.RowKit Go.Proofs.YtehnpmkfgdmmmaaW.PrintWords Go.Proofs.YtehnpmkfgdmmmaaW.PrintLast Go.Proofs.YtehnpmkfgdmmmaaW.PrintMore
attribute [local go_sem] max2_int min2_int max_two min_two max_three min_three max_four min_four   -- for this text's walks alone
set_option linter.unusedVariables false
set_option linter.unusedSimpArgs false

/-! ### atriumref21_ParseToken: function 21 -/
def atriumref21_ParseToken.j0 : Nat → ByteArray → Bool → Option (Int × Int × Int)
  | 0, _, _ => none
  | k + 1, x5, x18 => if x18 = true then (some (0, 0, 211)) else (if 0 ≤ 8 then (if 8 ≤ (x5.size : Int) then ((atriumref02_Read.f k (x5.extract 0 8)).bind fun t191 => ((atriumref02_Read.f k (x5.extract 8 x5.size)).bind fun t192 => (some (t191, t192, 0)))) else (none)) else (none))
def atriumref21_ParseToken.f (k : Nat) (a0 : ByteArray) : Option (Int × Int × Int) := (atriumref04_Unbase64.f k a0).bind fun bt189 => (if bt189.2 = true then (atriumref21_ParseToken.j0 k bt189.1 ((bt189.1.size : Int) != 16)) else (atriumref21_ParseToken.j0 k bt189.1 true))
theorem atriumref21_ParseToken.mono_l : ∀ k, (∀ y0 y1, LeO (atriumref21_ParseToken.j0 k y0 y1) (atriumref21_ParseToken.j0 (k + 1) y0 y1))
  | 0 => fun _ _ r h => by simp [atriumref21_ParseToken.j0] at h
  | k + 1 => by
    have ih0 := atriumref21_ParseToken.mono_l k
    · intro y0 y1
      unfold atriumref21_ParseToken.j0
      repeat' first
      | (with_reducible exact ih0 _ _)
      | (with_reducible exact atriumref02_Read.mono _ _)
      | (with_reducible exact atriumref04_Unbase64.mono _ _)
      | (with_reducible exact LeO.refl _)
      | (with_reducible exact LeO.none _)
      | (with_reducible refine LeO.ite ?_ ?_)
      | (with_reducible refine LeO.bind ?_ (fun _ => ?_))
      | exact ih0 _ _
      | exact atriumref02_Read.mono _ _
      | exact atriumref04_Unbase64.mono _ _
      | exact LeO.none _
      | refine LeO.ite ?_ ?_
      | refine LeO.bind ?_ (fun _ => ?_)
theorem atriumref21_ParseToken.mono : ∀ a0 k, LeO (atriumref21_ParseToken.f k a0) (atriumref21_ParseToken.f (k + 1) a0) := by
  intro a0 k
  have ih0 := atriumref21_ParseToken.mono_l k
  unfold atriumref21_ParseToken.f
  repeat' first
      | (with_reducible exact ih0 _ _)
      | (with_reducible exact atriumref02_Read.mono _ _)
      | (with_reducible exact atriumref04_Unbase64.mono _ _)
      | (with_reducible exact LeO.refl _)
      | (with_reducible exact LeO.none _)
      | (with_reducible refine LeO.ite ?_ ?_)
      | (with_reducible refine LeO.bind ?_ (fun _ => ?_))
      | exact ih0 _ _
      | exact atriumref02_Read.mono _ _
      | exact atriumref04_Unbase64.mono _ _
      | exact LeO.none _
      | refine LeO.ite ?_ ?_
      | refine LeO.bind ?_ (fun _ => ?_)
set_option maxHeartbeats 8000000 in
set_option maxRecDepth 100000 in
theorem atriumref21_ParseToken.calls (k : Nat) (a0 : ByteArray) (r1 : Int) (r2 : Int) (r3 : Int) (w : World) (h : atriumref21_ParseToken.f k a0 = some (r1, r2, r3)) :
    Calls Try.prog 21 #[.string a0] w fun e w' => e = .returned (.tuple #[.int .u64 r1, .int .u64 r2, .int .i64 r3]) ∧ Below w.heap.size w w' := by
  have HB := Aside0.mk (Below.refl w.heap.size w)
  have H : ((atriumref04_Unbase64.f k a0).bind fun bt189 => (if bt189.2 = true then (atriumref21_ParseToken.j0 k bt189.1 ((bt189.1.size : Int) != 16)) else (atriumref21_ParseToken.j0 k bt189.1 true))) = some (r1, r2, r3) := h
  clear h
  replace H := Option.bind_eq_some_iff.mp H
  obtain ⟨⟨t189, t190⟩, A20, H⟩ := H
  replace H : (if t190 = true then (atriumref21_ParseToken.j0 k t189 ((t189.size : Int) != 16)) else (atriumref21_ParseToken.j0 k t189 true)) = some (r1, r2, r3) := H
  have A2 := Aside0.mk A20
  clear A20
  have HC3 := Aside0.mk H
  clear H
  go_enter Try.func21, Try.ntmps21
  go_upto_region 2 with (first | (go_at_call 40; (with_reducible refine (atriumref04_Unbase64.calls k a0 t189 t190 _ A2.out).mono ?_); rintro e w4 ⟨rfl, hb⟩; have n0_ := Aside0.mk (below_step (by repeat (first | (with_reducible first | exact HB.out | apply below_alloc | apply pw_below_drewN | apply below_drew1) | exact HB.out)) hb); clear HB; have HB := n0_; clear n0_; (try clear hb); (try clear hb2); (try clear hk); (try clear hi)))
  repeat (go_quiet (first | (go_at_call 40; (with_reducible refine (atriumref04_Unbase64.calls k a0 t189 t190 _ A2.out).mono ?_); rintro e w4 ⟨rfl, hb⟩; have n0_ := Aside0.mk (below_step (by repeat (first | (with_reducible first | exact HB.out | apply below_alloc | apply pw_below_drewN | apply below_drew1) | exact HB.out)) hb); clear HB; have HB := n0_; clear n0_; (try clear hb); (try clear hb2); (try clear hk); (try clear hi))); go_upto_region 2 with (first | (go_at_call 40; (with_reducible refine (atriumref04_Unbase64.calls k a0 t189 t190 _ A2.out).mono ?_); rintro e w4 ⟨rfl, hb⟩; have n0_ := Aside0.mk (below_step (by repeat (first | (with_reducible first | exact HB.out | apply below_alloc | apply pw_below_drewN | apply below_drew1) | exact HB.out)) hb); clear HB; have HB := n0_; clear n0_; (try clear hb); (try clear hb2); (try clear hk); (try clear hi))))
  (try simp only [Act.put, List.setIfInBounds_toArray, List.set_cons_zero, List.set_cons_succ])
  go_cut [18] (fun v18 wc => ∃ (kq : Nat) (x18_2 : Bool), v18 = .bool x18_2 ∧ Aside0 (atriumref21_ParseToken.j0 kq t189 x18_2 = some (r1, r2, r3)) ∧ Aside0 (kq ≤ k) ∧ Aside0 (Below w.heap.size w wc))
  case first =>
    have H := HC3.out
    clear HC3
    by_cases c5 : t190 = true
    · subst c5
      have H1 : (atriumref21_ParseToken.j0 k t189 ((t189.size : Int) != 16)) = some (r1, r2, r3) := by rw [if_pos rfl] at H; exact H
      clear H
      have H := H1
      clear H1
      have H' := Aside0.mk H
      clear H
      go_wp2
      repeat (go_quiet (fail); try go_wp2)
      go_meet
      case rel => exact ⟨_, (((t189.size : Int) != 16)), (by first | rfl | (simp; done) | (simp [*]; done) | (simp <;> (generalize ByteArray.toList _ = l_; cases l_ <;> rfl))), H', ⟨by first | omega | exact Nat.le_refl _⟩, ⟨by repeat (first | (with_reducible first | exact HB.out | apply below_alloc | apply pw_below_drewN | apply below_drew1) | exact HB.out)⟩⟩
    · replace c5 := Bool.eq_false_iff.mpr c5
      subst c5
      have H1 : (atriumref21_ParseToken.j0 k t189 true) = some (r1, r2, r3) := by rw [if_neg (show ¬ (false = true) by decide)] at H; exact H
      clear H
      have H := H1
      clear H1
      have H' := Aside0.mk H
      clear H
      go_wp2
      repeat (go_quiet (fail); try go_wp2)
      go_meet
      case rel => exact ⟨_, (true), (by first | rfl | (simp; done) | (simp [*]; done) | (simp <;> (generalize ByteArray.toList _ = l_; cases l_ <;> rfl))), H', ⟨by first | omega | exact Nat.le_refl _⟩, ⟨by repeat (first | (with_reducible first | exact HB.out | apply below_alloc | apply pw_below_drewN | apply below_drew1) | exact HB.out)⟩⟩
  case rest =>
    clear HC3
    try clear c2
    try clear p2
    try clear c5
    obtain ⟨kq, x18_2, rfl, HA, HJ2, HB⟩ := hcut
    cases kq with
    | zero => exact absurd HA.out (by simp [atriumref21_ParseToken.j0])
    | succ kj2 =>
      have H := HA.out
      clear HA
      simp only [atriumref21_ParseToken.j0] at H
      by_cases c6 : x18_2 = true
      · subst c6
        have H1 : (some (0, 0, 211)) = some (r1, r2, r3) := by rw [if_pos rfl] at H; exact H
        clear H
        have H := H1
        clear H1
        simp only [Option.some.injEq, Prod.mk.injEq] at H
        obtain ⟨rfl, rfl, rfl⟩ := H
        go_wp2
        repeat (go_quiet (fail); try go_wp2)
        go_ret3
        exact ⟨by first | rfl | (simp [errW_none, errW_some] <;> rfl) | (simp [*, errW_none, errW_some] <;> rfl), by repeat (first | (with_reducible first | exact HB.out | apply below_alloc | apply pw_below_drewN | apply below_drew1) | exact HB.out)⟩
      · replace c6 := Bool.eq_false_iff.mpr c6
        subst c6
        have H1 : (if 0 ≤ 8 then (if 8 ≤ (t189.size : Int) then ((atriumref02_Read.f kj2 (t189.extract 0 8)).bind fun t191 => ((atriumref02_Read.f kj2 (t189.extract 8 t189.size)).bind fun t192 => (some (t191, t192, 0)))) else (none)) else (none)) = some (r1, r2, r3) := by rw [if_neg (show ¬ (false = true) by decide)] at H; exact H
        clear H
        have H := H1
        clear H1
        by_cases c7 : 0 ≤ 8
        · rw [if_pos c7] at H
          have c7b0 := eq_true c7
          have c7b1 : decide (0 ≤ 8) = true := decide_eq_true c7
          clear c7
          by_cases c8 : 8 ≤ (t189.size : Int)
          · rw [if_pos c8] at H
            have c8b0 := eq_true c8
            have c8b1 : decide (8 ≤ (t189.size : Int)) = true := decide_eq_true c8
            clear c8
            replace H := Option.bind_eq_some_iff.mp H
            obtain ⟨t191, A90, H⟩ := H
            replace H : ((atriumref02_Read.f kj2 (t189.extract 8 t189.size)).bind fun t192 => (some (t191, t192, 0))) = some (r1, r2, r3) := H
            have A9 := Aside0.mk A90
            clear A90
            have c10b0 := eq_true (of_decide_eq_true (by first | (with_reducible assumption) | assumption) : 8 ≤ (t189.size : Int))
            replace H := Option.bind_eq_some_iff.mp H
            obtain ⟨t192, A110, H⟩ := H
            replace H : (some (t191, t192, 0)) = some (r1, r2, r3) := H
            have A11 := Aside0.mk A110
            clear A110
            simp only [Option.some.injEq, Prod.mk.injEq] at H
            obtain ⟨rfl, rfl, rfl⟩ := H
            go_wp2_with (first | (go_at_call 41; (with_reducible refine (atriumref02_Read.calls kj2 (t189.extract 0 8) t191 _ A9.out).mono ?_); rintro e w' ⟨rfl, ⟨nd, rfl⟩⟩; (try first | exact ⟨rfl, _, World.drewN_drewN _ _ _⟩ | exact ⟨rfl, _, Eq.trans (World.drewN_drewN _ _ _) (congrArg (World.drewN _) (Nat.add_assoc _ _ _))⟩)) | (go_at_call 41; (with_reducible refine (atriumref02_Read.calls kj2 (t189.extract 8 t189.size) t192 _ A11.out).mono ?_); rintro e w' ⟨rfl, ⟨nd, rfl⟩⟩; (try first | exact ⟨rfl, _, World.drewN_drewN _ _ _⟩ | exact ⟨rfl, _, Eq.trans (World.drewN_drewN _ _ _) (congrArg (World.drewN _) (Nat.add_assoc _ _ _))⟩)))
            repeat (go_quiet (first | (go_at_call 41; (with_reducible refine (atriumref02_Read.calls kj2 (t189.extract 0 8) t191 _ A9.out).mono ?_); rintro e w' ⟨rfl, ⟨nd, rfl⟩⟩; (try first | exact ⟨rfl, _, World.drewN_drewN _ _ _⟩ | exact ⟨rfl, _, Eq.trans (World.drewN_drewN _ _ _) (congrArg (World.drewN _) (Nat.add_assoc _ _ _))⟩)) | (go_at_call 41; (with_reducible refine (atriumref02_Read.calls kj2 (t189.extract 8 t189.size) t192 _ A11.out).mono ?_); rintro e w' ⟨rfl, ⟨nd, rfl⟩⟩; (try first | exact ⟨rfl, _, World.drewN_drewN _ _ _⟩ | exact ⟨rfl, _, Eq.trans (World.drewN_drewN _ _ _) (congrArg (World.drewN _) (Nat.add_assoc _ _ _))⟩))); try go_wp2_with (first | (go_at_call 41; (with_reducible refine (atriumref02_Read.calls kj2 (t189.extract 0 8) t191 _ A9.out).mono ?_); rintro e w' ⟨rfl, ⟨nd, rfl⟩⟩; (try first | exact ⟨rfl, _, World.drewN_drewN _ _ _⟩ | exact ⟨rfl, _, Eq.trans (World.drewN_drewN _ _ _) (congrArg (World.drewN _) (Nat.add_assoc _ _ _))⟩)) | (go_at_call 41; (with_reducible refine (atriumref02_Read.calls kj2 (t189.extract 8 t189.size) t192 _ A11.out).mono ?_); rintro e w' ⟨rfl, ⟨nd, rfl⟩⟩; (try first | exact ⟨rfl, _, World.drewN_drewN _ _ _⟩ | exact ⟨rfl, _, Eq.trans (World.drewN_drewN _ _ _) (congrArg (World.drewN _) (Nat.add_assoc _ _ _))⟩))))
            go_ret3
            exact ⟨by first | rfl | (simp [errW_none, errW_some] <;> rfl) | (simp [*, errW_none, errW_some] <;> rfl), by repeat (first | (with_reducible first | exact HB.out | apply below_alloc | apply pw_below_drewN | apply below_drew1) | exact HB.out)⟩
          · rw [if_neg c8] at H
            exact absurd H (by simp)
        · rw [if_neg c7] at H
          exact absurd H (by simp)

/-! ### atriumref02_Number: function 43 -/
def atriumref02_Number.l0 : Nat → Int → List Int → Int → Option (ByteArray)
  | 0, _, _, _ => none
  | k + 1, x0, x5, x6 => if x6 ≥ 0 then (if 0 ≤ (wrap64 (8 * x6)) then (if x5.length < 140737488355328 then (atriumref02_Number.l0 k x0 (x5 ++ [(shr .u64 x0 (wrap64 (8 * x6))) % 256]) (wrap64 (x6 - 1))) else (none)) else (none)) else (some (strOfNums x5))
def atriumref02_Number.f (k : Nat) (a0 : Int) (a1 : Int) : Option (ByteArray) := atriumref02_Number.l0 k a0 ([] : List Int) (wrap64 (a1 - 1))
theorem atriumref02_Number.mono_l : ∀ k, (∀ y0 y1 y2, LeO (atriumref02_Number.l0 k y0 y1 y2) (atriumref02_Number.l0 (k + 1) y0 y1 y2))
  | 0 => fun _ _ _ r h => by simp [atriumref02_Number.l0] at h
  | k + 1 => by
    have ih0 := atriumref02_Number.mono_l k
    · intro y0 y1 y2
      unfold atriumref02_Number.l0
      repeat' first
      | (with_reducible exact ih0 _ _ _)
      | (with_reducible exact LeO.refl _)
      | (with_reducible exact LeO.none _)
      | (with_reducible refine LeO.ite ?_ ?_)
      | (with_reducible refine LeO.bind ?_ (fun _ => ?_))
      | exact ih0 _ _ _
      | exact LeO.none _
      | refine LeO.ite ?_ ?_
      | refine LeO.bind ?_ (fun _ => ?_)
theorem atriumref02_Number.mono : ∀ a0 a1 k, LeO (atriumref02_Number.f k a0 a1) (atriumref02_Number.f (k + 1) a0 a1) := by
  intro a0 a1 k
  have ih0 := atriumref02_Number.mono_l k
  unfold atriumref02_Number.f
  repeat' first
      | (with_reducible exact ih0 _ _ _)
      | (with_reducible exact LeO.refl _)
      | (with_reducible exact LeO.none _)
      | (with_reducible refine LeO.ite ?_ ?_)
      | (with_reducible refine LeO.bind ?_ (fun _ => ?_))
      | exact ih0 _ _ _
      | exact LeO.none _
      | refine LeO.ite ?_ ?_
      | refine LeO.bind ?_ (fun _ => ?_)
set_option maxHeartbeats 8000000 in
set_option maxRecDepth 100000 in
theorem atriumref02_Number.calls (k : Nat) (a0 : Int) (a1 : Int) (r : ByteArray) (w : World) (h : atriumref02_Number.f k a0 a1 = some r) :
    Calls Try.prog 43 #[.int .u64 a0, .int .i64 a1] w fun e w' => e = .returned (.string r) ∧ Below w.heap.size w w' := by
  have HB := Aside0.mk (Below.refl w.heap.size w)
  have H : (atriumref02_Number.l0 k a0 ([] : List Int) (wrap64 (a1 - 1))) = some r := h
  clear h
  have H' := Aside0.mk H
  clear H
  go_enter Try.func43, Try.ntmps43
  go_wp2
  go_loopg [5, 6] k (fun kq v5 v6 w' => ∃ (x5_1 : List Int) (x6_1 : Int), v6 = .int .i64 x6_1 ∧ Aside0 (atriumref02_Number.l0 kq a0 x5_1 x6_1 = some r) ∧ Aside0 (kq ≤ k) ∧ Aside0 (Kd.R (Kd.int .u8) 5 w' w.heap.size (fun _ => True) v5 x5_1) ∧ Aside0 (Below w.heap.size w w'))
  case atStart => exact ⟨(([] : List Int)), (wrap64 (a1 - 1)), (by first | rfl | (simp; done) | (simp [*]; done) | (simp <;> (generalize ByteArray.toList _ = l_; cases l_ <;> rfl))), H', ⟨Nat.le_refl _⟩, ⟨by first | exact Kd.R_nil _ _ _ _ _ | exact Kd.N_nil _ _ _ _ _ | exact Kd.V_nil _ _ _ _ _ | exact Kd.Q_nil _ _ _ _ _ | exact Kd.S_nil _ _ _ _ _⟩, ⟨by repeat (first | (with_reducible first | exact HB.out | apply below_alloc | apply pw_below_drewN | apply below_drew1) | exact HB.out)⟩⟩
  case round =>
    clear H'
    try clear p2
    obtain ⟨x5_1, x6_1, rfl, HA, HK1, HO_5, HB⟩ := hrel
    cases gk with
    | zero => exact absurd HA.out (by simp [atriumref02_Number.l0])
    | succ k1 =>
      have H := HA.out
      clear HA
      simp only [atriumref02_Number.l0] at H
      by_cases c3 : x6_1 ≥ 0
      · rw [if_pos c3] at H
        have c3b0 : decide (0 ≤ x6_1) = true := decide_eq_true c3
        clear c3
        obtain ⟨ji4, hji4⟩ : ∃ j_ : Int, (wrap64 (8 * x6_1)) = j_ := ⟨_, rfl⟩
        replace H : (if 0 ≤ (ji4) then (if x5_1.length < 140737488355328 then (atriumref02_Number.l0 k1 a0 (x5_1 ++ [(shr .u64 a0 (ji4)) % 256]) (wrap64 (x6_1 - 1))) else (none)) else (none)) = some r := by first | (rw [hji4] at H; exact H) | (simp only [hji4] at H ⊢; exact H)
        have hji4w : (IntKind.i64.wrap (8 * x6_1)) = ji4 := (i64_w _).trans hji4
        by_cases c5 : 0 ≤ (ji4)
        · rw [if_pos c5] at H
          have c5b0 := eq_true c5
          have c5b1 : decide (0 ≤ (ji4)) = true := decide_eq_true c5
          clear c5
          obtain ⟨ji6, hji6⟩ : ∃ j_ : Int, (shr .u64 a0 (ji4)) = j_ := ⟨_, rfl⟩
          replace H : (if x5_1.length < 140737488355328 then (atriumref02_Number.l0 k1 a0 (x5_1 ++ [(ji6) % 256]) (wrap64 (x6_1 - 1))) else (none)) = some r := by first | (rw [hji6] at H; exact H) | (simp only [hji6] at H ⊢; exact H)
          have hji6_ : (a0 / 2 ^ min (ji4).toNat 64) = ji6 := hji6
          have hji6z : (ji4) ≤ 64 → (a0 / 2 ^ (ji4).toNat) = ji6 := shr_small hji6
          by_cases c7 : x5_1.length < 140737488355328
          · rw [if_pos c7] at H
            have LMc7 := Aside0.mk c7
            clear c7
            obtain ⟨y193, hy193⟩ : ∃ y_ : List Int, y_ = (x5_1 ++ [(ji6) % 256]) := ⟨_, rfl⟩
            replace H : (atriumref02_Number.l0 k1 a0 y193 (wrap64 (x6_1 - 1))) = some r := by first | (rw [hy193]; with_reducible exact H) | (have H2_ := (Option.bind_some _ _).symm.trans H; rw [hy193]; with_reducible exact H2_) | (have H2_ := (Option.bind_some _ _).symm.trans H; with_reducible exact H2_) | with_reducible exact H | (rw [hy193]; exact H) | exact H
            have Ny193 := Aside0.mk hy193
            clear hy193
            have H' := Aside0.mk H
            clear H
            go_wp2_with (first | ((with_reducible refine gate_builtin (b := .append) (xs := #[.tmp 13, .tmp 19]) rfl ?_); at_builtin; refine Kd.R_append (Kd.int .u8) (w0 := w) w.heap.size rfl (.tmp 13) (.tmp 19) 37 5 (.int .u8 0) 1 rfl Try.underlying37 info5 rfl (by decide) (by omega) u5 x5_1 ((ji6) % 256) [.int .u8 ((ji6) % 256)] (fun _ => True) (fun _ => False) rfl rfl ?aP (fun _ hk => hk.elim) ?aF ?aO ?aB ?aS ?aL ?_; (case aP => exact rfl); (case aB => exact (by repeat (first | (with_reducible first | exact HB.out | apply below_alloc | apply pw_below_drewN | apply below_drew1) | exact HB.out))); (case aF => exact (fun _ _ => trivial)); (case aO => exact (by (with_reducible repeat (first | apply Kd.R_alloc | apply Kd.R_drewN | apply Kd.R_drew)); exact HO_5.out)); (case aS => exact (below_size (by repeat (first | (with_reducible first | exact HB.out | apply below_alloc | apply pw_below_drewN | apply below_drew1) | exact HB.out)))); (case aL => have := LMc7.out; omega); intro v194 w8 ho hb hg hat; rw [← Ny193.out] at ho; have n0_ := Aside0.mk (hb); have n1_ := Aside0.mk (ho); clear HB; clear HO_5; have HB := n0_; have HO195 := n1_; clear n0_ n1_; clear ho hb hg hat))
            go_roundg k1
            case measure => have := HK1.out; omega
            case rel => exact ⟨(y193), (wrap64 (x6_1 - 1)), (by first | rfl | (simp; done) | (simp [*]; done) | (simp <;> (generalize ByteArray.toList _ = l_; cases l_ <;> rfl))), H', ⟨by have := HK1.out; omega⟩, ⟨by (with_reducible repeat (first | apply Kd.R_alloc | apply Kd.R_drewN | apply Kd.R_drew)); exact HO195.out⟩, ⟨by repeat (first | (with_reducible first | exact HB.out | apply below_alloc | apply pw_below_drewN | apply below_drew1) | exact HB.out)⟩⟩
          · rw [if_neg c7] at H
            exact absurd H (by simp)
        · rw [if_neg c5] at H
          exact absurd H (by simp)
      · rw [if_neg c3] at H
        have c3b0 : decide (0 ≤ x6_1) = false := decide_eq_false c3
        clear c3
        obtain rfl := Option.some.inj H
        have hcv9 := own_string (P := Try.prog) Try.underlying37 Try.underlying5 Try.underlying9 (Kd.own_of_R HO_5.out)
        go_wp2
        go_ret
        exact ⟨by first | rfl | (simp [errW_none, errW_some] <;> rfl) | (simp [*, errW_none, errW_some] <;> rfl), by repeat (first | (with_reducible first | exact HB.out | apply below_alloc | apply pw_below_drewN | apply below_drew1) | exact HB.out)⟩

/-! ### atriumref21_Token: function 22 -/
def atriumref21_Token.f (k : Nat) (a0 : Int) (a1 : Int) : Option (ByteArray) := (atriumref02_Number.f k a0 8).bind fun t196 => ((atriumref02_Number.f k a1 8).bind fun t197 => (if t196.size + t197.size ≤ 9223372036854775807 then ((atriumref04_Base64.f k (t196 ++ t197)).bind fun t198 => (some t198)) else (none)))
theorem atriumref21_Token.mono : ∀ a0 a1 k, LeO (atriumref21_Token.f k a0 a1) (atriumref21_Token.f (k + 1) a0 a1) := by
  intro a0 a1 k
  unfold atriumref21_Token.f
  repeat' first
      | (with_reducible exact atriumref02_Number.mono _ _ _)
      | (with_reducible exact atriumref04_Base64.mono _ _)
      | (with_reducible exact LeO.refl _)
      | (with_reducible exact LeO.none _)
      | (with_reducible refine LeO.ite ?_ ?_)
      | (with_reducible refine LeO.bind ?_ (fun _ => ?_))
      | exact atriumref02_Number.mono _ _ _
      | exact atriumref04_Base64.mono _ _
      | exact LeO.none _
      | refine LeO.ite ?_ ?_
      | refine LeO.bind ?_ (fun _ => ?_)
set_option maxHeartbeats 8000000 in
set_option maxRecDepth 100000 in
theorem atriumref21_Token.calls (k : Nat) (a0 : Int) (a1 : Int) (r : ByteArray) (w : World) (h : atriumref21_Token.f k a0 a1 = some r) :
    Calls Try.prog 22 #[.int .u64 a0, .int .u64 a1] w fun e w' => e = .returned (.string r) ∧ Below w.heap.size w w' := by
  have HB := Aside0.mk (Below.refl w.heap.size w)
  have H : ((atriumref02_Number.f k a0 8).bind fun t196 => ((atriumref02_Number.f k a1 8).bind fun t197 => (if t196.size + t197.size ≤ 9223372036854775807 then ((atriumref04_Base64.f k (t196 ++ t197)).bind fun t198 => (some t198)) else (none)))) = some r := h
  clear h
  replace H := Option.bind_eq_some_iff.mp H
  obtain ⟨t196, A30, H⟩ := H
  replace H : ((atriumref02_Number.f k a1 8).bind fun t197 => (if t196.size + t197.size ≤ 9223372036854775807 then ((atriumref04_Base64.f k (t196 ++ t197)).bind fun t198 => (some t198)) else (none))) = some r := H
  have A3 := Aside0.mk A30
  clear A30
  replace H := Option.bind_eq_some_iff.mp H
  obtain ⟨t197, A40, H⟩ := H
  replace H : (if t196.size + t197.size ≤ 9223372036854775807 then ((atriumref04_Base64.f k (t196 ++ t197)).bind fun t198 => (some t198)) else (none)) = some r := H
  have A4 := Aside0.mk A40
  clear A40
  by_cases c5 : t196.size + t197.size ≤ 9223372036854775807
  · rw [if_pos c5] at H
    have c5b0 := eq_true c5
    have c5b1 : decide (t196.size + t197.size ≤ 9223372036854775807) = true := decide_eq_true c5
    try have c5b2 : (9223372036854775807 < t196.size + t197.size) = False := eq_false (Nat.not_lt.2 c5)
    replace H := Option.bind_eq_some_iff.mp H
    obtain ⟨t198, A60, H⟩ := H
    replace H : (some t198) = some r := H
    have A6 := Aside0.mk A60
    clear A60
    obtain rfl := Option.some.inj H
    go_enter Try.func22, Try.ntmps22
    go_wp2_with (first | ((with_reducible refine gate_callee (f := 43) rfl ?_); refine goesL_ (some 6) rfl rfl Try.func43 (by kernel_rfl) rfl #[.int .u64 a0, .int .i64 8] rfl (by (try simp only [List.map_toArray, List.map_cons, List.map_nil]); first | done | rfl | (simp only [List.length_drop, List.length_take]; rfl)) ?_; (with_reducible refine (atriumref02_Number.calls k a0 8 t196 _ A3.out).mono ?_); rintro e w7 ⟨rfl, hb⟩; refine ⟨_, rfl, ?_⟩; have n0_ := Aside0.mk (below_step (by repeat (first | (with_reducible first | exact HB.out | apply below_alloc | apply pw_below_drewN | apply below_drew1) | exact HB.out)) hb); clear HB; have HB := n0_; clear n0_; (try clear hb); (try clear hb2); (try clear hk); (try clear hi)) | ((with_reducible refine gate_callee (f := 43) rfl ?_); refine goesL_ (some 8) rfl rfl Try.func43 (by kernel_rfl) rfl #[.int .u64 a1, .int .i64 8] rfl (by (try simp only [List.map_toArray, List.map_cons, List.map_nil]); first | done | rfl | (simp only [List.length_drop, List.length_take]; rfl)) ?_; (with_reducible refine (atriumref02_Number.calls k a1 8 t197 _ A4.out).mono ?_); rintro e w8 ⟨rfl, hb⟩; refine ⟨_, rfl, ?_⟩; have n0_ := Aside0.mk (below_step (by repeat (first | (with_reducible first | exact HB.out | apply below_alloc | apply pw_below_drewN | apply below_drew1) | exact HB.out)) hb); clear HB; have HB := n0_; clear n0_; (try clear hb); (try clear hb2); (try clear hk); (try clear hi)) | ((with_reducible refine gate_callee (f := 42) rfl ?_); refine goesL_ (some 10) rfl rfl Try.func42 (by kernel_rfl) rfl #[.string (t196 ++ t197)] rfl (by (try simp only [List.map_toArray, List.map_cons, List.map_nil]); first | done | rfl | (simp only [List.length_drop, List.length_take]; rfl)) ?_; (with_reducible refine (atriumref04_Base64.calls k (t196 ++ t197) t198 _ A6.out).mono ?_); rintro e w9 ⟨rfl, hb⟩; refine ⟨_, rfl, ?_⟩; have n0_ := Aside0.mk (below_step (by repeat (first | (with_reducible first | exact HB.out | apply below_alloc | apply pw_below_drewN | apply below_drew1) | exact HB.out)) hb); clear HB; have HB := n0_; clear n0_; (try clear hb); (try clear hb2); (try clear hk); (try clear hi)))
    go_ret
    exact ⟨by first | rfl | (simp [errW_none, errW_some] <;> rfl) | (simp [*, errW_none, errW_some] <;> rfl), by repeat (first | (with_reducible first | exact HB.out | apply below_alloc | apply pw_below_drewN | apply below_drew1) | exact HB.out)⟩
  · rw [if_neg c5] at H
    exact absurd H (by simp)

/-! ### atriumlaw21_CredTokens: function 7 -/
def atriumlaw21_CredTokens.j0 : Nat → Int → Int → Int → Int → ByteArray → ByteArray → Int → Int → Int → Bool → Option (Bool)
  | 0, _, _, _, _, _, _, _, _, _, _ => none
  | k + 1, x0, x1, x2, x3, x4, x11, x15, x16, x17, x79 => if x79 = true then (some false) else (if x17 = 0 then ((cred_Token.f x15 x16).bind fun t211 => (if t211.toList = x4.toList then ((cred_Token.f x2 x3).bind fun t212 => (if x2 = x0 then (some ((t212.toList == x11.toList) == (x3 == x1))) else (some ((t212.toList == x11.toList) == false)))) else (some false))) else ((cred_Token.f x2 x3).bind fun t213 => (if x2 = x0 then (some ((t213.toList == x11.toList) == (x3 == x1))) else (some ((t213.toList == x11.toList) == false)))))
def atriumlaw21_CredTokens.f (k : Nat) (a0 : Int) (a1 : Int) (a2 : Int) (a3 : Int) (a4 : ByteArray) : Option (Bool) := (cred_Token.f a0 a1).bind fun t199 => ((cred_ParseToken.f k t199).bind fun bt200 => ((cred_ParseToken.f k a4).bind fun bt203 => ((atriumref21_ParseToken.f k a4).bind fun bt206 => ((atriumlaw21_lives.f k).bind fun t209 => (if t209 = true then ((atriumref21_Token.f k a0 a1).bind fun t210 => (if t199.toList = t210.toList then (if bt200.1 = a0 then (if bt200.2.1 = a1 then (if bt200.2.2 = 0 then (if bt203.1 = bt206.1 then (if bt203.2.1 = bt206.2.1 then (atriumlaw21_CredTokens.j0 k a0 a1 a2 a3 a4 t199 bt203.1 bt203.2.1 bt203.2.2 (bt203.2.2 != bt206.2.2)) else (atriumlaw21_CredTokens.j0 k a0 a1 a2 a3 a4 t199 bt203.1 bt203.2.1 bt203.2.2 true)) else (atriumlaw21_CredTokens.j0 k a0 a1 a2 a3 a4 t199 bt203.1 bt203.2.1 bt203.2.2 true)) else (atriumlaw21_CredTokens.j0 k a0 a1 a2 a3 a4 t199 bt203.1 bt203.2.1 bt203.2.2 true)) else (atriumlaw21_CredTokens.j0 k a0 a1 a2 a3 a4 t199 bt203.1 bt203.2.1 bt203.2.2 true)) else (atriumlaw21_CredTokens.j0 k a0 a1 a2 a3 a4 t199 bt203.1 bt203.2.1 bt203.2.2 true)) else (atriumlaw21_CredTokens.j0 k a0 a1 a2 a3 a4 t199 bt203.1 bt203.2.1 bt203.2.2 true))) else (atriumlaw21_CredTokens.j0 k a0 a1 a2 a3 a4 t199 bt203.1 bt203.2.1 bt203.2.2 true))))))
theorem atriumlaw21_CredTokens.mono_l : ∀ k, (∀ y0 y1 y2 y3 y4 y5 y6 y7 y8 y9, LeO (atriumlaw21_CredTokens.j0 k y0 y1 y2 y3 y4 y5 y6 y7 y8 y9) (atriumlaw21_CredTokens.j0 (k + 1) y0 y1 y2 y3 y4 y5 y6 y7 y8 y9))
  | 0 => fun _ _ _ _ _ _ _ _ _ _ r h => by simp [atriumlaw21_CredTokens.j0] at h
  | k + 1 => by
    have ih0 := atriumlaw21_CredTokens.mono_l k
    · intro y0 y1 y2 y3 y4 y5 y6 y7 y8 y9
      unfold atriumlaw21_CredTokens.j0
      repeat' first
      | (with_reducible exact ih0 _ _ _ _ _ _ _ _ _ _)
      | (with_reducible exact atriumlaw21_lives.mono _)
      | (with_reducible exact atriumref21_ParseToken.mono _ _)
      | (with_reducible exact atriumref21_Token.mono _ _ _)
      | (with_reducible exact cred_ParseToken.mono _ _)
      | (with_reducible exact LeO.refl _)
      | (with_reducible exact LeO.none _)
      | (with_reducible refine LeO.ite ?_ ?_)
      | (with_reducible refine LeO.bind ?_ (fun _ => ?_))
      | exact ih0 _ _ _ _ _ _ _ _ _ _
      | exact atriumlaw21_lives.mono _
      | exact atriumref21_ParseToken.mono _ _
      | exact atriumref21_Token.mono _ _ _
      | exact cred_ParseToken.mono _ _
      | exact LeO.none _
      | refine LeO.ite ?_ ?_
      | refine LeO.bind ?_ (fun _ => ?_)
theorem atriumlaw21_CredTokens.mono : ∀ a0 a1 a2 a3 a4 k, LeO (atriumlaw21_CredTokens.f k a0 a1 a2 a3 a4) (atriumlaw21_CredTokens.f (k + 1) a0 a1 a2 a3 a4) := by
  intro a0 a1 a2 a3 a4 k
  have ih0 := atriumlaw21_CredTokens.mono_l k
  unfold atriumlaw21_CredTokens.f
  repeat' first
      | (with_reducible exact ih0 _ _ _ _ _ _ _ _ _ _)
      | (with_reducible exact atriumlaw21_lives.mono _)
      | (with_reducible exact atriumref21_ParseToken.mono _ _)
      | (with_reducible exact atriumref21_Token.mono _ _ _)
      | (with_reducible exact cred_ParseToken.mono _ _)
      | (with_reducible exact LeO.refl _)
      | (with_reducible exact LeO.none _)
      | (with_reducible refine LeO.ite ?_ ?_)
      | (with_reducible refine LeO.bind ?_ (fun _ => ?_))
      | exact ih0 _ _ _ _ _ _ _ _ _ _
      | exact atriumlaw21_lives.mono _
      | exact atriumref21_ParseToken.mono _ _
      | exact atriumref21_Token.mono _ _ _
      | exact cred_ParseToken.mono _ _
      | exact LeO.none _
      | refine LeO.ite ?_ ?_
      | refine LeO.bind ?_ (fun _ => ?_)
set_option maxHeartbeats 8000000 in
set_option maxRecDepth 100000 in
theorem atriumlaw21_CredTokens.calls (k : Nat) (a0 : Int) (a1 : Int) (a2 : Int) (a3 : Int) (a4 : ByteArray) (r : Bool) (w : World) (h : atriumlaw21_CredTokens.f k a0 a1 a2 a3 a4 = some r) :
    Calls Try.prog 7 #[.int .u64 a0, .int .u64 a1, .int .u64 a2, .int .u64 a3, .string a4] w fun e w' => e = .returned (.bool r) ∧ Below w.heap.size w w' := by
  have HB := Aside0.mk (Below.refl w.heap.size w)
  have H : ((cred_Token.f a0 a1).bind fun t199 => ((cred_ParseToken.f k t199).bind fun bt200 => ((cred_ParseToken.f k a4).bind fun bt203 => ((atriumref21_ParseToken.f k a4).bind fun bt206 => ((atriumlaw21_lives.f k).bind fun t209 => (if t209 = true then ((atriumref21_Token.f k a0 a1).bind fun t210 => (if t199.toList = t210.toList then (if bt200.1 = a0 then (if bt200.2.1 = a1 then (if bt200.2.2 = 0 then (if bt203.1 = bt206.1 then (if bt203.2.1 = bt206.2.1 then (atriumlaw21_CredTokens.j0 k a0 a1 a2 a3 a4 t199 bt203.1 bt203.2.1 bt203.2.2 (bt203.2.2 != bt206.2.2)) else (atriumlaw21_CredTokens.j0 k a0 a1 a2 a3 a4 t199 bt203.1 bt203.2.1 bt203.2.2 true)) else (atriumlaw21_CredTokens.j0 k a0 a1 a2 a3 a4 t199 bt203.1 bt203.2.1 bt203.2.2 true)) else (atriumlaw21_CredTokens.j0 k a0 a1 a2 a3 a4 t199 bt203.1 bt203.2.1 bt203.2.2 true)) else (atriumlaw21_CredTokens.j0 k a0 a1 a2 a3 a4 t199 bt203.1 bt203.2.1 bt203.2.2 true)) else (atriumlaw21_CredTokens.j0 k a0 a1 a2 a3 a4 t199 bt203.1 bt203.2.1 bt203.2.2 true)) else (atriumlaw21_CredTokens.j0 k a0 a1 a2 a3 a4 t199 bt203.1 bt203.2.1 bt203.2.2 true))) else (atriumlaw21_CredTokens.j0 k a0 a1 a2 a3 a4 t199 bt203.1 bt203.2.1 bt203.2.2 true))))))) = some r := h
  clear h
  replace H := Option.bind_eq_some_iff.mp H
  obtain ⟨t199, A60, H⟩ := H
  replace H : ((cred_ParseToken.f k t199).bind fun bt200 => ((cred_ParseToken.f k a4).bind fun bt203 => ((atriumref21_ParseToken.f k a4).bind fun bt206 => ((atriumlaw21_lives.f k).bind fun t209 => (if t209 = true then ((atriumref21_Token.f k a0 a1).bind fun t210 => (if t199.toList = t210.toList then (if bt200.1 = a0 then (if bt200.2.1 = a1 then (if bt200.2.2 = 0 then (if bt203.1 = bt206.1 then (if bt203.2.1 = bt206.2.1 then (atriumlaw21_CredTokens.j0 k a0 a1 a2 a3 a4 t199 bt203.1 bt203.2.1 bt203.2.2 (bt203.2.2 != bt206.2.2)) else (atriumlaw21_CredTokens.j0 k a0 a1 a2 a3 a4 t199 bt203.1 bt203.2.1 bt203.2.2 true)) else (atriumlaw21_CredTokens.j0 k a0 a1 a2 a3 a4 t199 bt203.1 bt203.2.1 bt203.2.2 true)) else (atriumlaw21_CredTokens.j0 k a0 a1 a2 a3 a4 t199 bt203.1 bt203.2.1 bt203.2.2 true)) else (atriumlaw21_CredTokens.j0 k a0 a1 a2 a3 a4 t199 bt203.1 bt203.2.1 bt203.2.2 true)) else (atriumlaw21_CredTokens.j0 k a0 a1 a2 a3 a4 t199 bt203.1 bt203.2.1 bt203.2.2 true)) else (atriumlaw21_CredTokens.j0 k a0 a1 a2 a3 a4 t199 bt203.1 bt203.2.1 bt203.2.2 true))) else (atriumlaw21_CredTokens.j0 k a0 a1 a2 a3 a4 t199 bt203.1 bt203.2.1 bt203.2.2 true)))))) = some r := H
  have A6 := Aside0.mk A60
  clear A60
  replace H := Option.bind_eq_some_iff.mp H
  obtain ⟨⟨t200, t201, t202⟩, A70, H⟩ := H
  replace H : ((cred_ParseToken.f k a4).bind fun bt203 => ((atriumref21_ParseToken.f k a4).bind fun bt206 => ((atriumlaw21_lives.f k).bind fun t209 => (if t209 = true then ((atriumref21_Token.f k a0 a1).bind fun t210 => (if t199.toList = t210.toList then (if t200 = a0 then (if t201 = a1 then (if t202 = 0 then (if bt203.1 = bt206.1 then (if bt203.2.1 = bt206.2.1 then (atriumlaw21_CredTokens.j0 k a0 a1 a2 a3 a4 t199 bt203.1 bt203.2.1 bt203.2.2 (bt203.2.2 != bt206.2.2)) else (atriumlaw21_CredTokens.j0 k a0 a1 a2 a3 a4 t199 bt203.1 bt203.2.1 bt203.2.2 true)) else (atriumlaw21_CredTokens.j0 k a0 a1 a2 a3 a4 t199 bt203.1 bt203.2.1 bt203.2.2 true)) else (atriumlaw21_CredTokens.j0 k a0 a1 a2 a3 a4 t199 bt203.1 bt203.2.1 bt203.2.2 true)) else (atriumlaw21_CredTokens.j0 k a0 a1 a2 a3 a4 t199 bt203.1 bt203.2.1 bt203.2.2 true)) else (atriumlaw21_CredTokens.j0 k a0 a1 a2 a3 a4 t199 bt203.1 bt203.2.1 bt203.2.2 true)) else (atriumlaw21_CredTokens.j0 k a0 a1 a2 a3 a4 t199 bt203.1 bt203.2.1 bt203.2.2 true))) else (atriumlaw21_CredTokens.j0 k a0 a1 a2 a3 a4 t199 bt203.1 bt203.2.1 bt203.2.2 true))))) = some r := H
  have A7 := Aside0.mk A70
  clear A70
  replace H := Option.bind_eq_some_iff.mp H
  obtain ⟨⟨t203, t204, t205⟩, A80, H⟩ := H
  replace H : ((atriumref21_ParseToken.f k a4).bind fun bt206 => ((atriumlaw21_lives.f k).bind fun t209 => (if t209 = true then ((atriumref21_Token.f k a0 a1).bind fun t210 => (if t199.toList = t210.toList then (if t200 = a0 then (if t201 = a1 then (if t202 = 0 then (if t203 = bt206.1 then (if t204 = bt206.2.1 then (atriumlaw21_CredTokens.j0 k a0 a1 a2 a3 a4 t199 t203 t204 t205 (t205 != bt206.2.2)) else (atriumlaw21_CredTokens.j0 k a0 a1 a2 a3 a4 t199 t203 t204 t205 true)) else (atriumlaw21_CredTokens.j0 k a0 a1 a2 a3 a4 t199 t203 t204 t205 true)) else (atriumlaw21_CredTokens.j0 k a0 a1 a2 a3 a4 t199 t203 t204 t205 true)) else (atriumlaw21_CredTokens.j0 k a0 a1 a2 a3 a4 t199 t203 t204 t205 true)) else (atriumlaw21_CredTokens.j0 k a0 a1 a2 a3 a4 t199 t203 t204 t205 true)) else (atriumlaw21_CredTokens.j0 k a0 a1 a2 a3 a4 t199 t203 t204 t205 true))) else (atriumlaw21_CredTokens.j0 k a0 a1 a2 a3 a4 t199 t203 t204 t205 true)))) = some r := H
  have A8 := Aside0.mk A80
  clear A80
  replace H := Option.bind_eq_some_iff.mp H
  obtain ⟨⟨t206, t207, t208⟩, A90, H⟩ := H
  replace H : ((atriumlaw21_lives.f k).bind fun t209 => (if t209 = true then ((atriumref21_Token.f k a0 a1).bind fun t210 => (if t199.toList = t210.toList then (if t200 = a0 then (if t201 = a1 then (if t202 = 0 then (if t203 = t206 then (if t204 = t207 then (atriumlaw21_CredTokens.j0 k a0 a1 a2 a3 a4 t199 t203 t204 t205 (t205 != t208)) else (atriumlaw21_CredTokens.j0 k a0 a1 a2 a3 a4 t199 t203 t204 t205 true)) else (atriumlaw21_CredTokens.j0 k a0 a1 a2 a3 a4 t199 t203 t204 t205 true)) else (atriumlaw21_CredTokens.j0 k a0 a1 a2 a3 a4 t199 t203 t204 t205 true)) else (atriumlaw21_CredTokens.j0 k a0 a1 a2 a3 a4 t199 t203 t204 t205 true)) else (atriumlaw21_CredTokens.j0 k a0 a1 a2 a3 a4 t199 t203 t204 t205 true)) else (atriumlaw21_CredTokens.j0 k a0 a1 a2 a3 a4 t199 t203 t204 t205 true))) else (atriumlaw21_CredTokens.j0 k a0 a1 a2 a3 a4 t199 t203 t204 t205 true))) = some r := H
  have A9 := Aside0.mk A90
  clear A90
  have HC10 := Aside0.mk H
  clear H
  go_enter Try.func7, Try.ntmps7
  go_upto_region 5 with (first | ((with_reducible refine gate_callee (f := 19) rfl ?_); refine goesL_ (some 23) rfl rfl Try.func19 (by kernel_rfl) rfl #[.int .u64 a0, .int .u64 a1] rfl (by (try simp only [List.map_toArray, List.map_cons, List.map_nil]); first | done | rfl | (simp only [List.length_drop, List.length_take]; rfl)) ?_; (with_reducible refine (cred_Token.calls a0 a1 t199 _ A6.out).mono ?_); rintro e w11 ⟨rfl, hb⟩; refine ⟨_, rfl, ?_⟩; have n0_ := Aside0.mk (below_step (by repeat (first | (with_reducible first | exact HB.out | apply below_alloc | apply pw_below_drewN | apply below_drew1) | exact HB.out)) hb); clear HB; have HB := n0_; clear n0_; (try clear hb); (try clear hb2); (try clear hk); (try clear hi)) | ((with_reducible refine gate_callee (f := 20) rfl ?_); refine goesL_ (some 26) rfl rfl Try.func20 (by kernel_rfl) rfl #[.string t199] rfl (by (try simp only [List.map_toArray, List.map_cons, List.map_nil]); first | done | rfl | (simp only [List.length_drop, List.length_take]; rfl)) ?_; (with_reducible refine (cred_ParseToken.calls k t199 t200 t201 t202 _ A7.out).mono ?_); rintro e w12 ⟨rfl, hb⟩; refine ⟨_, rfl, ?_⟩; have n0_ := Aside0.mk (below_step (by repeat (first | (with_reducible first | exact HB.out | apply below_alloc | apply pw_below_drewN | apply below_drew1) | exact HB.out)) hb); clear HB; have HB := n0_; clear n0_; (try clear hb); (try clear hb2); (try clear hk); (try clear hi)) | ((with_reducible refine gate_callee (f := 20) rfl ?_); refine goesL_ (some 32) rfl rfl Try.func20 (by kernel_rfl) rfl #[.string a4] rfl (by (try simp only [List.map_toArray, List.map_cons, List.map_nil]); first | done | rfl | (simp only [List.length_drop, List.length_take]; rfl)) ?_; (with_reducible refine (cred_ParseToken.calls k a4 t203 t204 t205 _ A8.out).mono ?_); rintro e w13 ⟨rfl, hb⟩; refine ⟨_, rfl, ?_⟩; have n0_ := Aside0.mk (below_step (by repeat (first | (with_reducible first | exact HB.out | apply below_alloc | apply pw_below_drewN | apply below_drew1) | exact HB.out)) hb); clear HB; have HB := n0_; clear n0_; (try clear hb); (try clear hb2); (try clear hk); (try clear hi)) | ((with_reducible refine gate_callee (f := 21) rfl ?_); refine goesL_ (some 38) rfl rfl Try.func21 (by kernel_rfl) rfl #[.string a4] rfl (by (try simp only [List.map_toArray, List.map_cons, List.map_nil]); first | done | rfl | (simp only [List.length_drop, List.length_take]; rfl)) ?_; (with_reducible refine (atriumref21_ParseToken.calls k a4 t206 t207 t208 _ A9.out).mono ?_); rintro e w14 ⟨rfl, hb⟩; refine ⟨_, rfl, ?_⟩; have n0_ := Aside0.mk (below_step (by repeat (first | (with_reducible first | exact HB.out | apply below_alloc | apply pw_below_drewN | apply below_drew1) | exact HB.out)) hb); clear HB; have HB := n0_; clear n0_; (try clear hb); (try clear hb2); (try clear hk); (try clear hi)))
  (try simp only [Act.put, List.setIfInBounds_toArray, List.set_cons_zero, List.set_cons_succ])
  go_cut [79] (fun v79 wc => ∃ (kq : Nat) (x79_9 : Bool), v79 = .bool x79_9 ∧ Aside0 (atriumlaw21_CredTokens.j0 kq a0 a1 a2 a3 a4 t199 t203 t204 t205 x79_9 = some r) ∧ Aside0 (kq ≤ k) ∧ Aside0 (Below w.heap.size w wc))
  case first =>
    have H := HC10.out
    clear HC10
    replace H := Option.bind_eq_some_iff.mp H
    obtain ⟨t209, A150, H⟩ := H
    replace H : (if t209 = true then ((atriumref21_Token.f k a0 a1).bind fun t210 => (if t199.toList = t210.toList then (if t200 = a0 then (if t201 = a1 then (if t202 = 0 then (if t203 = t206 then (if t204 = t207 then (atriumlaw21_CredTokens.j0 k a0 a1 a2 a3 a4 t199 t203 t204 t205 (t205 != t208)) else (atriumlaw21_CredTokens.j0 k a0 a1 a2 a3 a4 t199 t203 t204 t205 true)) else (atriumlaw21_CredTokens.j0 k a0 a1 a2 a3 a4 t199 t203 t204 t205 true)) else (atriumlaw21_CredTokens.j0 k a0 a1 a2 a3 a4 t199 t203 t204 t205 true)) else (atriumlaw21_CredTokens.j0 k a0 a1 a2 a3 a4 t199 t203 t204 t205 true)) else (atriumlaw21_CredTokens.j0 k a0 a1 a2 a3 a4 t199 t203 t204 t205 true)) else (atriumlaw21_CredTokens.j0 k a0 a1 a2 a3 a4 t199 t203 t204 t205 true))) else (atriumlaw21_CredTokens.j0 k a0 a1 a2 a3 a4 t199 t203 t204 t205 true)) = some r := H
    have A15 := Aside0.mk A150
    clear A150
    by_cases c16 : t209 = true
    · subst c16
      have H1 : ((atriumref21_Token.f k a0 a1).bind fun t210 => (if t199.toList = t210.toList then (if t200 = a0 then (if t201 = a1 then (if t202 = 0 then (if t203 = t206 then (if t204 = t207 then (atriumlaw21_CredTokens.j0 k a0 a1 a2 a3 a4 t199 t203 t204 t205 (t205 != t208)) else (atriumlaw21_CredTokens.j0 k a0 a1 a2 a3 a4 t199 t203 t204 t205 true)) else (atriumlaw21_CredTokens.j0 k a0 a1 a2 a3 a4 t199 t203 t204 t205 true)) else (atriumlaw21_CredTokens.j0 k a0 a1 a2 a3 a4 t199 t203 t204 t205 true)) else (atriumlaw21_CredTokens.j0 k a0 a1 a2 a3 a4 t199 t203 t204 t205 true)) else (atriumlaw21_CredTokens.j0 k a0 a1 a2 a3 a4 t199 t203 t204 t205 true)) else (atriumlaw21_CredTokens.j0 k a0 a1 a2 a3 a4 t199 t203 t204 t205 true))) = some r := by rw [if_pos rfl] at H; exact H
      clear H
      have H := H1
      clear H1
      replace H := Option.bind_eq_some_iff.mp H
      obtain ⟨t210, A170, H⟩ := H
      replace H : (if t199.toList = t210.toList then (if t200 = a0 then (if t201 = a1 then (if t202 = 0 then (if t203 = t206 then (if t204 = t207 then (atriumlaw21_CredTokens.j0 k a0 a1 a2 a3 a4 t199 t203 t204 t205 (t205 != t208)) else (atriumlaw21_CredTokens.j0 k a0 a1 a2 a3 a4 t199 t203 t204 t205 true)) else (atriumlaw21_CredTokens.j0 k a0 a1 a2 a3 a4 t199 t203 t204 t205 true)) else (atriumlaw21_CredTokens.j0 k a0 a1 a2 a3 a4 t199 t203 t204 t205 true)) else (atriumlaw21_CredTokens.j0 k a0 a1 a2 a3 a4 t199 t203 t204 t205 true)) else (atriumlaw21_CredTokens.j0 k a0 a1 a2 a3 a4 t199 t203 t204 t205 true)) else (atriumlaw21_CredTokens.j0 k a0 a1 a2 a3 a4 t199 t203 t204 t205 true)) = some r := H
      have A17 := Aside0.mk A170
      clear A170
      by_cases c18 : t199.toList = t210.toList
      · rw [if_pos c18] at H
        have c18b0 : (t199.toList == t210.toList) = true := beq_iff_eq.mpr c18
        have c18b1 : (t199.toList != t210.toList) = false := bne_eq_false_iff_eq.mpr c18
        clear c18
        (first | rw [c18b0] | (simp only [i64_w, i32_w]; rw [c18b0]) | skip)
        by_cases c19 : t200 = a0
        · rw [if_pos c19] at H
          have c19b0 : (t200 == a0) = true := beq_iff_eq.mpr c19
          have c19b1 : (t200 != a0) = false := bne_eq_false_iff_eq.mpr c19
          clear c19
          by_cases c20 : t201 = a1
          · rw [if_pos c20] at H
            have c20b0 : (t201 == a1) = true := beq_iff_eq.mpr c20
            have c20b1 : (t201 != a1) = false := bne_eq_false_iff_eq.mpr c20
            clear c20
            by_cases c21 : t202 = 0
            · rw [if_pos c21] at H
              have c21b0 : (t202 == 0) = true := beq_iff_eq.mpr c21
              have c21b1 : (t202 != 0) = false := bne_eq_false_iff_eq.mpr c21
              clear c21
              by_cases c22 : t203 = t206
              · rw [if_pos c22] at H
                have c22b0 : (t203 == t206) = true := beq_iff_eq.mpr c22
                have c22b1 : (t203 != t206) = false := bne_eq_false_iff_eq.mpr c22
                clear c22
                by_cases c23 : t204 = t207
                · rw [if_pos c23] at H
                  have c23b0 : (t204 == t207) = true := beq_iff_eq.mpr c23
                  have c23b1 : (t204 != t207) = false := bne_eq_false_iff_eq.mpr c23
                  clear c23
                  have H' := Aside0.mk H
                  clear H
                  go_wp2_with (first | ((with_reducible refine gate_callee (f := 10) rfl ?_); refine goesL_ (some 42) rfl rfl Try.func10 (by kernel_rfl) rfl #[] rfl (by (try simp only [List.map_toArray, List.map_cons, List.map_nil]); first | done | rfl | (simp only [List.length_drop, List.length_take]; rfl)) ?_; (with_reducible refine (atriumlaw21_lives.calls k  true _ A15.out).mono ?_); rintro e w24 ⟨rfl, hb⟩; refine ⟨_, rfl, ?_⟩; have n0_ := Aside0.mk (below_step (by repeat (first | (with_reducible first | exact HB.out | apply below_alloc | apply pw_below_drewN | apply below_drew1) | exact HB.out)) hb); clear HB; have HB := n0_; clear n0_; (try clear hb); (try clear hb2); (try clear hk); (try clear hi)) | (go_at_call 22; (with_reducible refine (atriumref21_Token.calls k a0 a1 t210 _ A17.out).mono ?_); rintro e w25 ⟨rfl, hb⟩; have n0_ := Aside0.mk (below_step (by repeat (first | (with_reducible first | exact HB.out | apply below_alloc | apply pw_below_drewN | apply below_drew1) | exact HB.out)) hb); clear HB; have HB := n0_; clear n0_; (try clear hb); (try clear hb2); (try clear hk); (try clear hi)))
                  go_meet
                  case rel => exact ⟨_, ((t205 != t208)), (by first | rfl | (simp; done) | (simp [*]; done) | (simp <;> (generalize ByteArray.toList _ = l_; cases l_ <;> rfl))), H', ⟨by first | omega | exact Nat.le_refl _⟩, ⟨by repeat (first | (with_reducible first | exact HB.out | apply below_alloc | apply pw_below_drewN | apply below_drew1) | exact HB.out)⟩⟩
                · rw [if_neg c23] at H
                  have c23b0 : (t204 == t207) = false := beq_eq_false_iff_ne.mpr c23
                  have c23b1 : (t204 != t207) = true := bne_iff_ne.mpr c23
                  have H' := Aside0.mk H
                  clear H
                  go_wp2_with (first | ((with_reducible refine gate_callee (f := 10) rfl ?_); refine goesL_ (some 42) rfl rfl Try.func10 (by kernel_rfl) rfl #[] rfl (by (try simp only [List.map_toArray, List.map_cons, List.map_nil]); first | done | rfl | (simp only [List.length_drop, List.length_take]; rfl)) ?_; (with_reducible refine (atriumlaw21_lives.calls k  true _ A15.out).mono ?_); rintro e w26 ⟨rfl, hb⟩; refine ⟨_, rfl, ?_⟩; have n0_ := Aside0.mk (below_step (by repeat (first | (with_reducible first | exact HB.out | apply below_alloc | apply pw_below_drewN | apply below_drew1) | exact HB.out)) hb); clear HB; have HB := n0_; clear n0_; (try clear hb); (try clear hb2); (try clear hk); (try clear hi)) | (go_at_call 22; (with_reducible refine (atriumref21_Token.calls k a0 a1 t210 _ A17.out).mono ?_); rintro e w27 ⟨rfl, hb⟩; have n0_ := Aside0.mk (below_step (by repeat (first | (with_reducible first | exact HB.out | apply below_alloc | apply pw_below_drewN | apply below_drew1) | exact HB.out)) hb); clear HB; have HB := n0_; clear n0_; (try clear hb); (try clear hb2); (try clear hk); (try clear hi)))
                  go_meet
                  case rel => exact ⟨_, (true), (by first | rfl | (simp; done) | (simp [*]; done) | (simp <;> (generalize ByteArray.toList _ = l_; cases l_ <;> rfl))), H', ⟨by first | omega | exact Nat.le_refl _⟩, ⟨by repeat (first | (with_reducible first | exact HB.out | apply below_alloc | apply pw_below_drewN | apply below_drew1) | exact HB.out)⟩⟩
              · rw [if_neg c22] at H
                have c22b0 : (t203 == t206) = false := beq_eq_false_iff_ne.mpr c22
                have c22b1 : (t203 != t206) = true := bne_iff_ne.mpr c22
                have H' := Aside0.mk H
                clear H
                go_wp2_with (first | ((with_reducible refine gate_callee (f := 10) rfl ?_); refine goesL_ (some 42) rfl rfl Try.func10 (by kernel_rfl) rfl #[] rfl (by (try simp only [List.map_toArray, List.map_cons, List.map_nil]); first | done | rfl | (simp only [List.length_drop, List.length_take]; rfl)) ?_; (with_reducible refine (atriumlaw21_lives.calls k  true _ A15.out).mono ?_); rintro e w28 ⟨rfl, hb⟩; refine ⟨_, rfl, ?_⟩; have n0_ := Aside0.mk (below_step (by repeat (first | (with_reducible first | exact HB.out | apply below_alloc | apply pw_below_drewN | apply below_drew1) | exact HB.out)) hb); clear HB; have HB := n0_; clear n0_; (try clear hb); (try clear hb2); (try clear hk); (try clear hi)) | (go_at_call 22; (with_reducible refine (atriumref21_Token.calls k a0 a1 t210 _ A17.out).mono ?_); rintro e w29 ⟨rfl, hb⟩; have n0_ := Aside0.mk (below_step (by repeat (first | (with_reducible first | exact HB.out | apply below_alloc | apply pw_below_drewN | apply below_drew1) | exact HB.out)) hb); clear HB; have HB := n0_; clear n0_; (try clear hb); (try clear hb2); (try clear hk); (try clear hi)))
                go_meet
                case rel => exact ⟨_, (true), (by first | rfl | (simp; done) | (simp [*]; done) | (simp <;> (generalize ByteArray.toList _ = l_; cases l_ <;> rfl))), H', ⟨by first | omega | exact Nat.le_refl _⟩, ⟨by repeat (first | (with_reducible first | exact HB.out | apply below_alloc | apply pw_below_drewN | apply below_drew1) | exact HB.out)⟩⟩
            · rw [if_neg c21] at H
              have c21b0 : (t202 == 0) = false := beq_eq_false_iff_ne.mpr c21
              have c21b1 : (t202 != 0) = true := bne_iff_ne.mpr c21
              have H' := Aside0.mk H
              clear H
              go_wp2_with (first | ((with_reducible refine gate_callee (f := 10) rfl ?_); refine goesL_ (some 42) rfl rfl Try.func10 (by kernel_rfl) rfl #[] rfl (by (try simp only [List.map_toArray, List.map_cons, List.map_nil]); first | done | rfl | (simp only [List.length_drop, List.length_take]; rfl)) ?_; (with_reducible refine (atriumlaw21_lives.calls k  true _ A15.out).mono ?_); rintro e w30 ⟨rfl, hb⟩; refine ⟨_, rfl, ?_⟩; have n0_ := Aside0.mk (below_step (by repeat (first | (with_reducible first | exact HB.out | apply below_alloc | apply pw_below_drewN | apply below_drew1) | exact HB.out)) hb); clear HB; have HB := n0_; clear n0_; (try clear hb); (try clear hb2); (try clear hk); (try clear hi)) | (go_at_call 22; (with_reducible refine (atriumref21_Token.calls k a0 a1 t210 _ A17.out).mono ?_); rintro e w31 ⟨rfl, hb⟩; have n0_ := Aside0.mk (below_step (by repeat (first | (with_reducible first | exact HB.out | apply below_alloc | apply pw_below_drewN | apply below_drew1) | exact HB.out)) hb); clear HB; have HB := n0_; clear n0_; (try clear hb); (try clear hb2); (try clear hk); (try clear hi)))
              go_meet
              case rel => exact ⟨_, (true), (by first | rfl | (simp; done) | (simp [*]; done) | (simp <;> (generalize ByteArray.toList _ = l_; cases l_ <;> rfl))), H', ⟨by first | omega | exact Nat.le_refl _⟩, ⟨by repeat (first | (with_reducible first | exact HB.out | apply below_alloc | apply pw_below_drewN | apply below_drew1) | exact HB.out)⟩⟩
          · rw [if_neg c20] at H
            have c20b0 : (t201 == a1) = false := beq_eq_false_iff_ne.mpr c20
            have c20b1 : (t201 != a1) = true := bne_iff_ne.mpr c20
            have H' := Aside0.mk H
            clear H
            go_wp2_with (first | ((with_reducible refine gate_callee (f := 10) rfl ?_); refine goesL_ (some 42) rfl rfl Try.func10 (by kernel_rfl) rfl #[] rfl (by (try simp only [List.map_toArray, List.map_cons, List.map_nil]); first | done | rfl | (simp only [List.length_drop, List.length_take]; rfl)) ?_; (with_reducible refine (atriumlaw21_lives.calls k  true _ A15.out).mono ?_); rintro e w32 ⟨rfl, hb⟩; refine ⟨_, rfl, ?_⟩; have n0_ := Aside0.mk (below_step (by repeat (first | (with_reducible first | exact HB.out | apply below_alloc | apply pw_below_drewN | apply below_drew1) | exact HB.out)) hb); clear HB; have HB := n0_; clear n0_; (try clear hb); (try clear hb2); (try clear hk); (try clear hi)) | (go_at_call 22; (with_reducible refine (atriumref21_Token.calls k a0 a1 t210 _ A17.out).mono ?_); rintro e w33 ⟨rfl, hb⟩; have n0_ := Aside0.mk (below_step (by repeat (first | (with_reducible first | exact HB.out | apply below_alloc | apply pw_below_drewN | apply below_drew1) | exact HB.out)) hb); clear HB; have HB := n0_; clear n0_; (try clear hb); (try clear hb2); (try clear hk); (try clear hi)))
            go_meet
            case rel => exact ⟨_, (true), (by first | rfl | (simp; done) | (simp [*]; done) | (simp <;> (generalize ByteArray.toList _ = l_; cases l_ <;> rfl))), H', ⟨by first | omega | exact Nat.le_refl _⟩, ⟨by repeat (first | (with_reducible first | exact HB.out | apply below_alloc | apply pw_below_drewN | apply below_drew1) | exact HB.out)⟩⟩
        · rw [if_neg c19] at H
          have c19b0 : (t200 == a0) = false := beq_eq_false_iff_ne.mpr c19
          have c19b1 : (t200 != a0) = true := bne_iff_ne.mpr c19
          have H' := Aside0.mk H
          clear H
          go_wp2_with (first | ((with_reducible refine gate_callee (f := 10) rfl ?_); refine goesL_ (some 42) rfl rfl Try.func10 (by kernel_rfl) rfl #[] rfl (by (try simp only [List.map_toArray, List.map_cons, List.map_nil]); first | done | rfl | (simp only [List.length_drop, List.length_take]; rfl)) ?_; (with_reducible refine (atriumlaw21_lives.calls k  true _ A15.out).mono ?_); rintro e w34 ⟨rfl, hb⟩; refine ⟨_, rfl, ?_⟩; have n0_ := Aside0.mk (below_step (by repeat (first | (with_reducible first | exact HB.out | apply below_alloc | apply pw_below_drewN | apply below_drew1) | exact HB.out)) hb); clear HB; have HB := n0_; clear n0_; (try clear hb); (try clear hb2); (try clear hk); (try clear hi)) | (go_at_call 22; (with_reducible refine (atriumref21_Token.calls k a0 a1 t210 _ A17.out).mono ?_); rintro e w35 ⟨rfl, hb⟩; have n0_ := Aside0.mk (below_step (by repeat (first | (with_reducible first | exact HB.out | apply below_alloc | apply pw_below_drewN | apply below_drew1) | exact HB.out)) hb); clear HB; have HB := n0_; clear n0_; (try clear hb); (try clear hb2); (try clear hk); (try clear hi)))
          go_meet
          case rel => exact ⟨_, (true), (by first | rfl | (simp; done) | (simp [*]; done) | (simp <;> (generalize ByteArray.toList _ = l_; cases l_ <;> rfl))), H', ⟨by first | omega | exact Nat.le_refl _⟩, ⟨by repeat (first | (with_reducible first | exact HB.out | apply below_alloc | apply pw_below_drewN | apply below_drew1) | exact HB.out)⟩⟩
      · rw [if_neg c18] at H
        have c18b0 : (t199.toList == t210.toList) = false := beq_eq_false_iff_ne.mpr c18
        have c18b1 : (t199.toList != t210.toList) = true := bne_iff_ne.mpr c18
        (first | rw [c18b0] | (simp only [i64_w, i32_w]; rw [c18b0]) | skip)
        have H' := Aside0.mk H
        clear H
        go_wp2_with (first | ((with_reducible refine gate_callee (f := 10) rfl ?_); refine goesL_ (some 42) rfl rfl Try.func10 (by kernel_rfl) rfl #[] rfl (by (try simp only [List.map_toArray, List.map_cons, List.map_nil]); first | done | rfl | (simp only [List.length_drop, List.length_take]; rfl)) ?_; (with_reducible refine (atriumlaw21_lives.calls k  true _ A15.out).mono ?_); rintro e w36 ⟨rfl, hb⟩; refine ⟨_, rfl, ?_⟩; have n0_ := Aside0.mk (below_step (by repeat (first | (with_reducible first | exact HB.out | apply below_alloc | apply pw_below_drewN | apply below_drew1) | exact HB.out)) hb); clear HB; have HB := n0_; clear n0_; (try clear hb); (try clear hb2); (try clear hk); (try clear hi)) | (go_at_call 22; (with_reducible refine (atriumref21_Token.calls k a0 a1 t210 _ A17.out).mono ?_); rintro e w37 ⟨rfl, hb⟩; have n0_ := Aside0.mk (below_step (by repeat (first | (with_reducible first | exact HB.out | apply below_alloc | apply pw_below_drewN | apply below_drew1) | exact HB.out)) hb); clear HB; have HB := n0_; clear n0_; (try clear hb); (try clear hb2); (try clear hk); (try clear hi)))
        go_meet
        case rel => exact ⟨_, (true), (by first | rfl | (simp; done) | (simp [*]; done) | (simp <;> (generalize ByteArray.toList _ = l_; cases l_ <;> rfl))), H', ⟨by first | omega | exact Nat.le_refl _⟩, ⟨by repeat (first | (with_reducible first | exact HB.out | apply below_alloc | apply pw_below_drewN | apply below_drew1) | exact HB.out)⟩⟩
    · replace c16 := Bool.eq_false_iff.mpr c16
      subst c16
      have H1 : (atriumlaw21_CredTokens.j0 k a0 a1 a2 a3 a4 t199 t203 t204 t205 true) = some r := by rw [if_neg (show ¬ (false = true) by decide)] at H; exact H
      clear H
      have H := H1
      clear H1
      have H' := Aside0.mk H
      clear H
      go_wp2_with (first | ((with_reducible refine gate_callee (f := 10) rfl ?_); refine goesL_ (some 42) rfl rfl Try.func10 (by kernel_rfl) rfl #[] rfl (by (try simp only [List.map_toArray, List.map_cons, List.map_nil]); first | done | rfl | (simp only [List.length_drop, List.length_take]; rfl)) ?_; (with_reducible refine (atriumlaw21_lives.calls k  false _ A15.out).mono ?_); rintro e w38 ⟨rfl, hb⟩; refine ⟨_, rfl, ?_⟩; have n0_ := Aside0.mk (below_step (by repeat (first | (with_reducible first | exact HB.out | apply below_alloc | apply pw_below_drewN | apply below_drew1) | exact HB.out)) hb); clear HB; have HB := n0_; clear n0_; (try clear hb); (try clear hb2); (try clear hk); (try clear hi)))
      go_meet
      case rel => exact ⟨_, (true), (by first | rfl | (simp; done) | (simp [*]; done) | (simp <;> (generalize ByteArray.toList _ = l_; cases l_ <;> rfl))), H', ⟨by first | omega | exact Nat.le_refl _⟩, ⟨by repeat (first | (with_reducible first | exact HB.out | apply below_alloc | apply pw_below_drewN | apply below_drew1) | exact HB.out)⟩⟩
  case rest =>
    clear HC10
    try clear c1
    try clear c2
    try clear p2
    try clear c7
    try clear c10
    try clear c16
    try clear c18
    try clear c18b0
    try clear c18b1
    try clear c19
    try clear c19b0
    try clear c19b1
    try clear c20
    try clear c20b0
    try clear c20b1
    try clear c21
    try clear c21b0
    try clear c21b1
    try clear c22
    try clear c22b0
    try clear c22b1
    try clear c23
    try clear c23b0
    try clear c23b1
    obtain ⟨kq, x79_9, rfl, HA, HJ9, HB⟩ := hcut
    cases kq with
    | zero => exact absurd HA.out (by simp [atriumlaw21_CredTokens.j0])
    | succ kj9 =>
      have H := HA.out
      clear HA
      simp only [atriumlaw21_CredTokens.j0] at H
      by_cases c39 : x79_9 = true
      · subst c39
        have H1 : (some false) = some r := by rw [if_pos rfl] at H; exact H
        clear H
        have H := H1
        clear H1
        obtain rfl := Option.some.inj H
        go_wp2
        go_ret
        exact ⟨by first | rfl | (simp only [← EA50.out]; rfl) | (simp [errW_none, errW_some] <;> rfl) | (simp [*, errW_none, errW_some] <;> rfl), by repeat (first | (with_reducible first | exact HB.out | apply below_alloc | apply pw_below_drewN | apply below_drew1) | exact HB.out)⟩
      · replace c39 := Bool.eq_false_iff.mpr c39
        subst c39
        have H1 : (if t205 = 0 then ((cred_Token.f t203 t204).bind fun t211 => (if t211.toList = a4.toList then ((cred_Token.f a2 a3).bind fun t212 => (if a2 = a0 then (some ((t212.toList == t199.toList) == (a3 == a1))) else (some ((t212.toList == t199.toList) == false)))) else (some false))) else ((cred_Token.f a2 a3).bind fun t213 => (if a2 = a0 then (some ((t213.toList == t199.toList) == (a3 == a1))) else (some ((t213.toList == t199.toList) == false))))) = some r := by rw [if_neg (show ¬ (false = true) by decide)] at H; exact H
        clear H
        have H := H1
        clear H1
        by_cases c40 : t205 = 0
        · rw [if_pos c40] at H
          have c40b0 : (t205 == 0) = true := beq_iff_eq.mpr c40
          have c40b1 : (t205 != 0) = false := bne_eq_false_iff_eq.mpr c40
          clear c40
          replace H := Option.bind_eq_some_iff.mp H
          obtain ⟨t211, A410, H⟩ := H
          replace H : (if t211.toList = a4.toList then ((cred_Token.f a2 a3).bind fun t212 => (if a2 = a0 then (some ((t212.toList == t199.toList) == (a3 == a1))) else (some ((t212.toList == t199.toList) == false)))) else (some false)) = some r := H
          have A41 := Aside0.mk A410
          clear A410
          by_cases c42 : t211.toList = a4.toList
          · rw [if_pos c42] at H
            have c42b0 : (t211.toList == a4.toList) = true := beq_iff_eq.mpr c42
            have c42b1 : (t211.toList != a4.toList) = false := bne_eq_false_iff_eq.mpr c42
            clear c42
            replace H := Option.bind_eq_some_iff.mp H
            obtain ⟨t212, A430, H⟩ := H
            replace H : (if a2 = a0 then (some ((t212.toList == t199.toList) == (a3 == a1))) else (some ((t212.toList == t199.toList) == false))) = some r := H
            have A43 := Aside0.mk A430
            clear A430
            by_cases c44 : a2 = a0
            · rw [if_pos c44] at H
              have c44b0 : (a2 == a0) = true := beq_iff_eq.mpr c44
              have c44b1 : (a2 != a0) = false := bne_eq_false_iff_eq.mpr c44
              clear c44
              obtain rfl := Option.some.inj H
              go_wp2_with (first | (go_at_call 19; (with_reducible refine (cred_Token.calls t203 t204 t211 _ A41.out).mono ?_); rintro e w45 ⟨rfl, hb⟩; have n0_ := Aside0.mk (below_step (by repeat (first | (with_reducible first | exact HB.out | apply below_alloc | apply pw_below_drewN | apply below_drew1) | exact HB.out)) hb); clear HB; have HB := n0_; clear n0_; (try clear hb); (try clear hb2); (try clear hk); (try clear hi)) | ((with_reducible refine gate_callee (f := 19) rfl ?_); refine goesL_ (some 91) rfl rfl Try.func19 (by kernel_rfl) rfl #[.int .u64 a2, .int .u64 a3] rfl (by (try simp only [List.map_toArray, List.map_cons, List.map_nil]); first | done | rfl | (simp only [List.length_drop, List.length_take]; rfl)) ?_; (with_reducible refine (cred_Token.calls a2 a3 t212 _ A43.out).mono ?_); rintro e w46 ⟨rfl, hb⟩; refine ⟨_, rfl, ?_⟩; have n0_ := Aside0.mk (below_step (by repeat (first | (with_reducible first | exact HB.out | apply below_alloc | apply pw_below_drewN | apply below_drew1) | exact HB.out)) hb); clear HB; have HB := n0_; clear n0_; (try clear hb); (try clear hb2); (try clear hk); (try clear hi)))
              go_ret
              exact ⟨by first | rfl | (simp only [← EA50.out]; rfl) | (simp [errW_none, errW_some] <;> rfl) | (simp [*, errW_none, errW_some] <;> rfl), by repeat (first | (with_reducible first | exact HB.out | apply below_alloc | apply pw_below_drewN | apply below_drew1) | exact HB.out)⟩
            · rw [if_neg c44] at H
              have c44b0 : (a2 == a0) = false := beq_eq_false_iff_ne.mpr c44
              have c44b1 : (a2 != a0) = true := bne_iff_ne.mpr c44
              obtain rfl := Option.some.inj H
              go_wp2_with (first | (go_at_call 19; (with_reducible refine (cred_Token.calls t203 t204 t211 _ A41.out).mono ?_); rintro e w47 ⟨rfl, hb⟩; have n0_ := Aside0.mk (below_step (by repeat (first | (with_reducible first | exact HB.out | apply below_alloc | apply pw_below_drewN | apply below_drew1) | exact HB.out)) hb); clear HB; have HB := n0_; clear n0_; (try clear hb); (try clear hb2); (try clear hk); (try clear hi)) | ((with_reducible refine gate_callee (f := 19) rfl ?_); refine goesL_ (some 91) rfl rfl Try.func19 (by kernel_rfl) rfl #[.int .u64 a2, .int .u64 a3] rfl (by (try simp only [List.map_toArray, List.map_cons, List.map_nil]); first | done | rfl | (simp only [List.length_drop, List.length_take]; rfl)) ?_; (with_reducible refine (cred_Token.calls a2 a3 t212 _ A43.out).mono ?_); rintro e w48 ⟨rfl, hb⟩; refine ⟨_, rfl, ?_⟩; have n0_ := Aside0.mk (below_step (by repeat (first | (with_reducible first | exact HB.out | apply below_alloc | apply pw_below_drewN | apply below_drew1) | exact HB.out)) hb); clear HB; have HB := n0_; clear n0_; (try clear hb); (try clear hb2); (try clear hk); (try clear hi)))
              go_ret
              exact ⟨by first | rfl | (simp only [← EA50.out]; rfl) | (simp [errW_none, errW_some] <;> rfl) | (simp [*, errW_none, errW_some] <;> rfl), by repeat (first | (with_reducible first | exact HB.out | apply below_alloc | apply pw_below_drewN | apply below_drew1) | exact HB.out)⟩
          · rw [if_neg c42] at H
            have c42b0 : (t211.toList == a4.toList) = false := beq_eq_false_iff_ne.mpr c42
            have c42b1 : (t211.toList != a4.toList) = true := bne_iff_ne.mpr c42
            obtain rfl := Option.some.inj H
            go_wp2_with (first | (go_at_call 19; (with_reducible refine (cred_Token.calls t203 t204 t211 _ A41.out).mono ?_); rintro e w49 ⟨rfl, hb⟩; have n0_ := Aside0.mk (below_step (by repeat (first | (with_reducible first | exact HB.out | apply below_alloc | apply pw_below_drewN | apply below_drew1) | exact HB.out)) hb); clear HB; have HB := n0_; clear n0_; (try clear hb); (try clear hb2); (try clear hk); (try clear hi)))
            go_ret
            exact ⟨by first | rfl | (simp only [← EA50.out]; rfl) | (simp [errW_none, errW_some] <;> rfl) | (simp [*, errW_none, errW_some] <;> rfl), by repeat (first | (with_reducible first | exact HB.out | apply below_alloc | apply pw_below_drewN | apply below_drew1) | exact HB.out)⟩
        · rw [if_neg c40] at H
          have c40b0 : (t205 == 0) = false := beq_eq_false_iff_ne.mpr c40
          have c40b1 : (t205 != 0) = true := bne_iff_ne.mpr c40
          replace H := Option.bind_eq_some_iff.mp H
          obtain ⟨t213, A500, H⟩ := H
          replace H : (if a2 = a0 then (some ((t213.toList == t199.toList) == (a3 == a1))) else (some ((t213.toList == t199.toList) == false))) = some r := H
          have A50 := Aside0.mk A500
          try have EA50 := Aside0.mk (show t212 = t213 from Option.some.inj (A43.out.symm.trans A50.out))
          clear A500
          by_cases c51 : a2 = a0
          · rw [if_pos c51] at H
            have c51b0 : (a2 == a0) = true := beq_iff_eq.mpr c51
            have c51b1 : (a2 != a0) = false := bne_eq_false_iff_eq.mpr c51
            clear c51
            obtain rfl := Option.some.inj H
            go_wp2_with (first | ((with_reducible refine gate_callee (f := 19) rfl ?_); refine goesL_ (some 91) rfl rfl Try.func19 (by kernel_rfl) rfl #[.int .u64 a2, .int .u64 a3] rfl (by (try simp only [List.map_toArray, List.map_cons, List.map_nil]); first | done | rfl | (simp only [List.length_drop, List.length_take]; rfl)) ?_; (with_reducible refine (cred_Token.calls a2 a3 t213 _ A50.out).mono ?_); rintro e w52 ⟨rfl, hb⟩; refine ⟨_, rfl, ?_⟩; have n0_ := Aside0.mk (below_step (by repeat (first | (with_reducible first | exact HB.out | apply below_alloc | apply pw_below_drewN | apply below_drew1) | exact HB.out)) hb); clear HB; have HB := n0_; clear n0_; (try clear hb); (try clear hb2); (try clear hk); (try clear hi)))
            go_ret
            exact ⟨by first | rfl | (simp only [← EA50.out]; rfl) | (simp [errW_none, errW_some] <;> rfl) | (simp [*, errW_none, errW_some] <;> rfl), by repeat (first | (with_reducible first | exact HB.out | apply below_alloc | apply pw_below_drewN | apply below_drew1) | exact HB.out)⟩
          · rw [if_neg c51] at H
            have c51b0 : (a2 == a0) = false := beq_eq_false_iff_ne.mpr c51
            have c51b1 : (a2 != a0) = true := bne_iff_ne.mpr c51
            obtain rfl := Option.some.inj H
            go_wp2_with (first | ((with_reducible refine gate_callee (f := 19) rfl ?_); refine goesL_ (some 91) rfl rfl Try.func19 (by kernel_rfl) rfl #[.int .u64 a2, .int .u64 a3] rfl (by (try simp only [List.map_toArray, List.map_cons, List.map_nil]); first | done | rfl | (simp only [List.length_drop, List.length_take]; rfl)) ?_; (with_reducible refine (cred_Token.calls a2 a3 t213 _ A50.out).mono ?_); rintro e w53 ⟨rfl, hb⟩; refine ⟨_, rfl, ?_⟩; have n0_ := Aside0.mk (below_step (by repeat (first | (with_reducible first | exact HB.out | apply below_alloc | apply pw_below_drewN | apply below_drew1) | exact HB.out)) hb); clear HB; have HB := n0_; clear n0_; (try clear hb); (try clear hb2); (try clear hk); (try clear hi)))
            go_ret
            exact ⟨by first | rfl | (simp only [← EA50.out]; rfl) | (simp [errW_none, errW_some] <;> rfl) | (simp [*, errW_none, errW_some] <;> rfl), by repeat (first | (with_reducible first | exact HB.out | apply below_alloc | apply pw_below_drewN | apply below_drew1) | exact HB.out)⟩

/-- THE ONE PURE STATEMENT of atriumlaw21_CredTokens: yours. -/
def atriumlaw21_CredTokens.Pure : Prop := ∀ (a0 : Int) (a1 : Int) (a2 : Int) (a3 : Int) (a4 : ByteArray), (Lit.int .u64 a0).wf = true → (Lit.int .u64 a1).wf = true → (Lit.int .u64 a2).wf = true → (Lit.int .u64 a3).wf = true → a4.size ≤ 140737488351232 → ∃ k, atriumlaw21_CredTokens.f k a0 a1 a2 a3 a4 = some true
theorem atriumlaw21_CredTokens.walk (P : atriumlaw21_CredTokens.Pure) (a0 : Int) (a1 : Int) (a2 : Int) (a3 : Int) (a4 : ByteArray) (w : World) (w0 : (Lit.int .u64 a0).wf = true) (w1 : (Lit.int .u64 a1).wf = true) (w2 : (Lit.int .u64 a2).wf = true) (w3 : (Lit.int .u64 a3).wf = true) (w4 : a4.size ≤ 140737488351232) :
    Calls Try.prog 7 #[.int .u64 a0, .int .u64 a1, .int .u64 a2, .int .u64 a3, .string a4] w fun e w' => e = .returned (.bool true) ∧ Below w.heap.size w w' := by
  obtain ⟨k, h⟩ := P a0 a1 a2 a3 a4 w0 w1 w2 w3 w4
  refine (atriumlaw21_CredTokens.calls k a0 a1 a2 a3 a4 true w h).mono ?_
  rintro e w' ⟨rfl, hd⟩
  exact ⟨rfl, hd⟩

end Go.Proofs.Ytehnpmkfgdmmmaa.PT
