-- Written by xprint.py, a program of this session, over the kit's print (functions walked by hand are taken as given); Lean checks it.
import Derived.Test.YtkekkabelnmlnaaPTx0
import Derived.Test.YtkekkabelnmlnaaPTx2
import Derived.Test.YtkekkabelnmlnaaPTx7
namespace Go.Proofs.Ytkekkabelnmlnaa.PT
open Go.RowKit Go.Proofs.YtkekkabelnmlnaaW.PrintWords Go.Proofs.YtkekkabelnmlnaaW.PrintLast Go.Proofs.YtkekkabelnmlnaaW.PrintMore
attribute [local go_sem] max2_int min2_int max_two min_two max_three min_three max_four min_four   -- for this text's walks alone
set_option linter.unusedVariables false
set_option linter.unusedSimpArgs false

/-! ### atriumlaw15_TextEncodes: function 7 -/
def atriumlaw15_TextEncodes.j0 : Nat → List Int → ByteArray → Int → Bool → Option (Bool)
  | 0, _, _, _, _ => none
  | k + 1, x0, x6, x9, x64 => if x64 = true then (some false) else (if x9 = 0 then ((text_Runes.f x6).bind fun t232 => ((atriumlaw15_sameRunes.f k t232 x0).bind fun t235 => (some t235))) else (some true))
def atriumlaw15_TextEncodes.f (k : Nat) (l0 : List Int) (a1 : Int) : Option (Bool) := (some (([] : List Int) : List Int)).bind fun y216 => (if y216.length + l0.length < 35184372088832 then ((some (y216 ++ l0 : List Int)).bind fun y219 => ((text_Text.f y219).bind fun bt222 => ((atriumref15_Text.f k l0).bind fun bt224 => ((text_Encode.f a1).bind fun bt226 => ((atriumref15_Encode.f a1).bind fun bt228 => ((atriumlaw15_lives.f k).bind fun t230 => (if t230 = true then (if bt222.1.toList = bt224.1.toList then (if bt222.2 = bt224.2 then (if bt226.1.toList = bt228.1.toList then (if bt226.2 = bt228.2 then ((atriumlaw15_sameRunes.f k y219 l0).bind fun t231 => (atriumlaw15_TextEncodes.j0 k l0 bt222.1 bt224.2 (!t231))) else (atriumlaw15_TextEncodes.j0 k l0 bt222.1 bt224.2 true)) else (atriumlaw15_TextEncodes.j0 k l0 bt222.1 bt224.2 true)) else (atriumlaw15_TextEncodes.j0 k l0 bt222.1 bt224.2 true)) else (atriumlaw15_TextEncodes.j0 k l0 bt222.1 bt224.2 true)) else (atriumlaw15_TextEncodes.j0 k l0 bt222.1 bt224.2 true)))))))) else (none))
theorem atriumlaw15_TextEncodes.mono_l : ∀ k, (∀ y0 y1 y2 y3, LeO (atriumlaw15_TextEncodes.j0 k y0 y1 y2 y3) (atriumlaw15_TextEncodes.j0 (k + 1) y0 y1 y2 y3))
  | 0 => fun _ _ _ _ r h => by simp [atriumlaw15_TextEncodes.j0] at h
  | k + 1 => by
    have ih0 := atriumlaw15_TextEncodes.mono_l k
    · intro y0 y1 y2 y3
      unfold atriumlaw15_TextEncodes.j0
      repeat' first
      | (with_reducible exact ih0 _ _ _ _)
      | (with_reducible exact atriumlaw15_lives.mono _)
      | (with_reducible exact atriumlaw15_sameRunes.mono _ _ _)
      | (with_reducible exact atriumref15_Text.mono _ _)
      | (with_reducible exact LeO.refl _)
      | (with_reducible exact LeO.none _)
      | (with_reducible refine LeO.ite ?_ ?_)
      | (with_reducible refine LeO.bind ?_ (fun _ => ?_))
      | exact ih0 _ _ _ _
      | exact atriumlaw15_lives.mono _
      | exact atriumlaw15_sameRunes.mono _ _ _
      | exact atriumref15_Text.mono _ _
      | exact LeO.none _
      | refine LeO.ite ?_ ?_
      | refine LeO.bind ?_ (fun _ => ?_)
theorem atriumlaw15_TextEncodes.mono : ∀ a0 a1 k, LeO (atriumlaw15_TextEncodes.f k a0 a1) (atriumlaw15_TextEncodes.f (k + 1) a0 a1) := by
  intro a0 a1 k
  have ih0 := atriumlaw15_TextEncodes.mono_l k
  unfold atriumlaw15_TextEncodes.f
  repeat' first
      | (with_reducible exact ih0 _ _ _ _)
      | (with_reducible exact atriumlaw15_lives.mono _)
      | (with_reducible exact atriumlaw15_sameRunes.mono _ _ _)
      | (with_reducible exact atriumref15_Text.mono _ _)
      | (with_reducible exact LeO.refl _)
      | (with_reducible exact LeO.none _)
      | (with_reducible refine LeO.ite ?_ ?_)
      | (with_reducible refine LeO.bind ?_ (fun _ => ?_))
      | exact ih0 _ _ _ _
      | exact atriumlaw15_lives.mono _
      | exact atriumlaw15_sameRunes.mono _ _ _
      | exact atriumref15_Text.mono _ _
      | exact LeO.none _
      | refine LeO.ite ?_ ?_
      | refine LeO.bind ?_ (fun _ => ?_)
set_option maxHeartbeats 8000000 in
set_option maxRecDepth 100000 in
theorem atriumlaw15_TextEncodes.calls (k : Nat) (A0 : Option Addr) (c0 : Nat) (l0 : List Int) (a1 : Int) (r : Bool) (w : World) (hr0 : Kd.C (Kd.int .i32) w A0 l0.length l0) (hc0 : l0.length ≤ c0) (h : atriumlaw15_TextEncodes.f k l0 a1 = some r) :
    Calls Try.prog 7 #[.slice A0 l0.length c0, .int .i32 a1] w fun e w' => e = .returned (.bool r) ∧ Below w.heap.size w w' := by
  have HR0 := Aside0.mk hr0
  have HC0 := Aside0.mk hc0
  clear hr0 hc0
  have HB := Aside0.mk (Below.refl w.heap.size w)
  have H : ((some (([] : List Int) : List Int)).bind fun y216 => (if y216.length + l0.length < 35184372088832 then ((some (y216 ++ l0 : List Int)).bind fun y219 => ((text_Text.f y219).bind fun bt222 => ((atriumref15_Text.f k l0).bind fun bt224 => ((text_Encode.f a1).bind fun bt226 => ((atriumref15_Encode.f a1).bind fun bt228 => ((atriumlaw15_lives.f k).bind fun t230 => (if t230 = true then (if bt222.1.toList = bt224.1.toList then (if bt222.2 = bt224.2 then (if bt226.1.toList = bt228.1.toList then (if bt226.2 = bt228.2 then ((atriumlaw15_sameRunes.f k y219 l0).bind fun t231 => (atriumlaw15_TextEncodes.j0 k l0 bt222.1 bt224.2 (!t231))) else (atriumlaw15_TextEncodes.j0 k l0 bt222.1 bt224.2 true)) else (atriumlaw15_TextEncodes.j0 k l0 bt222.1 bt224.2 true)) else (atriumlaw15_TextEncodes.j0 k l0 bt222.1 bt224.2 true)) else (atriumlaw15_TextEncodes.j0 k l0 bt222.1 bt224.2 true)) else (atriumlaw15_TextEncodes.j0 k l0 bt222.1 bt224.2 true)))))))) else (none))) = some r := h
  clear h
  obtain ⟨y216, hy216⟩ : ∃ y_ : List Int, y_ = (([] : List Int)) := ⟨_, rfl⟩
  replace H : (if y216.length + l0.length < 35184372088832 then ((some (y216 ++ l0 : List Int)).bind fun y219 => ((text_Text.f y219).bind fun bt222 => ((atriumref15_Text.f k l0).bind fun bt224 => ((text_Encode.f a1).bind fun bt226 => ((atriumref15_Encode.f a1).bind fun bt228 => ((atriumlaw15_lives.f k).bind fun t230 => (if t230 = true then (if bt222.1.toList = bt224.1.toList then (if bt222.2 = bt224.2 then (if bt226.1.toList = bt228.1.toList then (if bt226.2 = bt228.2 then ((atriumlaw15_sameRunes.f k y219 l0).bind fun t231 => (atriumlaw15_TextEncodes.j0 k l0 bt222.1 bt224.2 (!t231))) else (atriumlaw15_TextEncodes.j0 k l0 bt222.1 bt224.2 true)) else (atriumlaw15_TextEncodes.j0 k l0 bt222.1 bt224.2 true)) else (atriumlaw15_TextEncodes.j0 k l0 bt222.1 bt224.2 true)) else (atriumlaw15_TextEncodes.j0 k l0 bt222.1 bt224.2 true)) else (atriumlaw15_TextEncodes.j0 k l0 bt222.1 bt224.2 true)))))))) else (none)) = some r := by first | (rw [hy216]; with_reducible exact H) | (have H2_ := (Option.bind_some _ _).symm.trans H; rw [hy216]; with_reducible exact H2_) | (have H2_ := (Option.bind_some _ _).symm.trans H; with_reducible exact H2_) | with_reducible exact H | (rw [hy216]; exact H) | exact H
  have Ny216 := Aside0.mk hy216
  clear hy216
  by_cases c3 : y216.length + l0.length < 35184372088832
  · rw [if_pos c3] at H
    have LMc3 := Aside0.mk c3
    clear c3
    obtain ⟨y219, hy219⟩ : ∃ y_ : List Int, y_ = (y216 ++ l0) := ⟨_, rfl⟩
    replace H : ((text_Text.f y219).bind fun bt222 => ((atriumref15_Text.f k l0).bind fun bt224 => ((text_Encode.f a1).bind fun bt226 => ((atriumref15_Encode.f a1).bind fun bt228 => ((atriumlaw15_lives.f k).bind fun t230 => (if t230 = true then (if bt222.1.toList = bt224.1.toList then (if bt222.2 = bt224.2 then (if bt226.1.toList = bt228.1.toList then (if bt226.2 = bt228.2 then ((atriumlaw15_sameRunes.f k y219 l0).bind fun t231 => (atriumlaw15_TextEncodes.j0 k l0 bt222.1 bt224.2 (!t231))) else (atriumlaw15_TextEncodes.j0 k l0 bt222.1 bt224.2 true)) else (atriumlaw15_TextEncodes.j0 k l0 bt222.1 bt224.2 true)) else (atriumlaw15_TextEncodes.j0 k l0 bt222.1 bt224.2 true)) else (atriumlaw15_TextEncodes.j0 k l0 bt222.1 bt224.2 true)) else (atriumlaw15_TextEncodes.j0 k l0 bt222.1 bt224.2 true))))))) = some r := by first | (rw [hy219]; with_reducible exact H) | (have H2_ := (Option.bind_some _ _).symm.trans H; rw [hy219]; with_reducible exact H2_) | (have H2_ := (Option.bind_some _ _).symm.trans H; with_reducible exact H2_) | with_reducible exact H | (rw [hy219]; exact H) | exact H
    have Ny219 := Aside0.mk hy219
    clear hy219
    replace H := Option.bind_eq_some_iff.mp H
    obtain ⟨⟨t222, t223⟩, A40, H⟩ := H
    replace H : ((atriumref15_Text.f k l0).bind fun bt224 => ((text_Encode.f a1).bind fun bt226 => ((atriumref15_Encode.f a1).bind fun bt228 => ((atriumlaw15_lives.f k).bind fun t230 => (if t230 = true then (if t222.toList = bt224.1.toList then (if t223 = bt224.2 then (if bt226.1.toList = bt228.1.toList then (if bt226.2 = bt228.2 then ((atriumlaw15_sameRunes.f k y219 l0).bind fun t231 => (atriumlaw15_TextEncodes.j0 k l0 t222 bt224.2 (!t231))) else (atriumlaw15_TextEncodes.j0 k l0 t222 bt224.2 true)) else (atriumlaw15_TextEncodes.j0 k l0 t222 bt224.2 true)) else (atriumlaw15_TextEncodes.j0 k l0 t222 bt224.2 true)) else (atriumlaw15_TextEncodes.j0 k l0 t222 bt224.2 true)) else (atriumlaw15_TextEncodes.j0 k l0 t222 bt224.2 true)))))) = some r := H
    have A4 := Aside0.mk A40
    clear A40
    replace H := Option.bind_eq_some_iff.mp H
    obtain ⟨⟨t224, t225⟩, A50, H⟩ := H
    replace H : ((text_Encode.f a1).bind fun bt226 => ((atriumref15_Encode.f a1).bind fun bt228 => ((atriumlaw15_lives.f k).bind fun t230 => (if t230 = true then (if t222.toList = t224.toList then (if t223 = t225 then (if bt226.1.toList = bt228.1.toList then (if bt226.2 = bt228.2 then ((atriumlaw15_sameRunes.f k y219 l0).bind fun t231 => (atriumlaw15_TextEncodes.j0 k l0 t222 t225 (!t231))) else (atriumlaw15_TextEncodes.j0 k l0 t222 t225 true)) else (atriumlaw15_TextEncodes.j0 k l0 t222 t225 true)) else (atriumlaw15_TextEncodes.j0 k l0 t222 t225 true)) else (atriumlaw15_TextEncodes.j0 k l0 t222 t225 true)) else (atriumlaw15_TextEncodes.j0 k l0 t222 t225 true))))) = some r := H
    have A5 := Aside0.mk A50
    clear A50
    replace H := Option.bind_eq_some_iff.mp H
    obtain ⟨⟨t226, t227⟩, A60, H⟩ := H
    replace H : ((atriumref15_Encode.f a1).bind fun bt228 => ((atriumlaw15_lives.f k).bind fun t230 => (if t230 = true then (if t222.toList = t224.toList then (if t223 = t225 then (if t226.toList = bt228.1.toList then (if t227 = bt228.2 then ((atriumlaw15_sameRunes.f k y219 l0).bind fun t231 => (atriumlaw15_TextEncodes.j0 k l0 t222 t225 (!t231))) else (atriumlaw15_TextEncodes.j0 k l0 t222 t225 true)) else (atriumlaw15_TextEncodes.j0 k l0 t222 t225 true)) else (atriumlaw15_TextEncodes.j0 k l0 t222 t225 true)) else (atriumlaw15_TextEncodes.j0 k l0 t222 t225 true)) else (atriumlaw15_TextEncodes.j0 k l0 t222 t225 true)))) = some r := H
    have A6 := Aside0.mk A60
    clear A60
    replace H := Option.bind_eq_some_iff.mp H
    obtain ⟨⟨t228, t229⟩, A70, H⟩ := H
    replace H : ((atriumlaw15_lives.f k).bind fun t230 => (if t230 = true then (if t222.toList = t224.toList then (if t223 = t225 then (if t226.toList = t228.toList then (if t227 = t229 then ((atriumlaw15_sameRunes.f k y219 l0).bind fun t231 => (atriumlaw15_TextEncodes.j0 k l0 t222 t225 (!t231))) else (atriumlaw15_TextEncodes.j0 k l0 t222 t225 true)) else (atriumlaw15_TextEncodes.j0 k l0 t222 t225 true)) else (atriumlaw15_TextEncodes.j0 k l0 t222 t225 true)) else (atriumlaw15_TextEncodes.j0 k l0 t222 t225 true)) else (atriumlaw15_TextEncodes.j0 k l0 t222 t225 true))) = some r := H
    have A7 := Aside0.mk A70
    clear A70
    have HC8 := Aside0.mk H
    clear H
    go_enter Try.func7, Try.ntmps7
    go_upto_region 6 with (first | ((with_reducible refine gate_dst (N := 14) rfl ?_); refine Kd.R_lit (Kd.int .i32) _ 21 ?hg (N := 14) ?hd (xs := ([] : List Int)) (inner := []) (ok := fun _ => True) (okp := fun _ => True) ?hr ?hp (fun _ hk => hk) trivial (Below.refl _ _) (Nat.le_refl _) (by simp) ?_; (case hd => rfl); (case hg => rfl); (case hr => first | (go_simp; done) | (go_simp; rfl)); (case hp => exact (Reps.none _ _)); intro v217 w9 ho10 hb hg_ hnew_; clear hg_ hnew_; (first | rw [← Ny216.out] at ho10 | (simp only [Int.reduceToNat] at ho10; rw [← Ny216.out] at ho10)); have n0_ := Aside0.mk (Kd.R_lower ho10 (below_size (by repeat (first | (with_reducible first | exact HB.out | apply below_alloc | apply pw_below_drewN | apply below_drew1) | exact HB.out)))); have n1_ := Aside0.mk (below_step (by repeat (first | (with_reducible first | exact HB.out | apply below_alloc | apply pw_below_drewN | apply below_drew1) | exact HB.out)) hb); clear HB; have HO218 := n0_; have HB := n1_; clear n0_ n1_; clear hb ho10) | ((with_reducible refine gate_builtin (b := .append) (xs := #[.tmp 14, .tmp 15]) rfl ?_); at_builtin; refine Kd.R_append_rows (Kd.int .i32) (w0 := w) w.heap.size rfl (.tmp 14) (.tmp 15) 35 21 (.int .i32 0) 4 rfl Try.underlying35 info21 rfl (by decide) (by omega) v217 y216 l0 _ _ _ (fun _ => True) (fun _ => False) rfl rfl ?aO ?aR (fun _ _ h => h) (fun _ h => h.elim) ?aF ?aB ?aS ?aL ?_; (case aR => repeat (first | exact (Kd.C_below HR0.out HB.out) | (with_reducible refine Kd.C_alloc ?_ _) | (with_reducible refine Kd.C_drewN ?_ _) | (with_reducible refine Kd.C_drew ?_))); (case aB => exact (by repeat (first | (with_reducible first | exact HB.out | apply below_alloc | apply pw_below_drewN | apply below_drew1) | exact HB.out))); (case aF => exact (fun _ _ => trivial)); (case aO => exact (by (with_reducible repeat (first | apply Kd.R_alloc | apply Kd.R_drewN | apply Kd.R_drew)); exact HO218.out)); (case aS => exact (below_size (by repeat (first | (with_reducible first | exact HB.out | apply below_alloc | apply pw_below_drewN | apply below_drew1) | exact HB.out)))); (case aL => have := LMc3.out; omega); intro v220 w11 ho hb hg hat; rw [← Ny219.out] at ho; have n0_ := Aside0.mk (hb); have n1_ := Aside0.mk (ho); clear HB; clear HO218; have HB := n0_; have HO221 := n1_; clear n0_ n1_; clear ho hb hg hat; obtain ⟨Ao12, co12, eo12⟩ := Kd.R_slice HO221.out; subst eo12) | ((with_reducible refine gate_callee (f := 25) rfl ?_); refine goesL_ (some 19) rfl rfl Try.func25 (by kernel_rfl) rfl #[.slice Ao12 y219.length co12] rfl (by (try simp only [List.map_toArray, List.map_cons, List.map_nil]); first | done | rfl | (simp only [List.length_drop, List.length_take]; rfl)) ?_; (with_reducible refine (text_Text.calls _ _ y219 t222 t223 _ ?side1 ?side2 A4.out).mono ?_); (case side1 => repeat (first | exact (Kd.R_reads' HO221.out).2.2 | (with_reducible refine Kd.C_alloc ?_ _) | (with_reducible refine Kd.C_drewN ?_ _) | (with_reducible refine Kd.C_drew ?_))); (case side2 => exact (Kd.R_reads' HO221.out).2.1); rintro e w13 ⟨rfl, hb⟩; refine ⟨_, rfl, ?_⟩; have n0_ := Aside0.mk (Kd.R_below (by (with_reducible repeat (first | apply Kd.R_alloc | apply Kd.R_drewN | apply Kd.R_drew)); exact HO221.out) hb); have n1_ := Aside0.mk (below_step (by repeat (first | (with_reducible first | exact HB.out | apply below_alloc | apply pw_below_drewN | apply below_drew1) | exact HB.out)) hb); clear HO221; clear HB; have HO221 := n0_; have HB := n1_; clear n0_ n1_; (try clear hb); (try clear hb2); (try clear hk); (try clear hi)) | ((with_reducible refine gate_callee (f := 26) rfl ?_); refine goesL_ (some 24) rfl rfl Try.func26 (by kernel_rfl) rfl #[.slice A0 l0.length c0] rfl (by (try simp only [List.map_toArray, List.map_cons, List.map_nil]); first | done | rfl | (simp only [List.length_drop, List.length_take]; rfl)) ?_; (with_reducible refine (atriumref15_Text.calls k _ _ l0 t224 t225 _ ?side1 ?side2 A5.out).mono ?_); (case side1 => repeat (first | exact (Kd.C_below HR0.out HB.out) | (with_reducible refine Kd.C_alloc ?_ _) | (with_reducible refine Kd.C_drewN ?_ _) | (with_reducible refine Kd.C_drew ?_))); (case side2 => exact HC0.out); rintro e w14 ⟨rfl, hb⟩; refine ⟨_, rfl, ?_⟩; have n0_ := Aside0.mk (Kd.R_below (by (with_reducible repeat (first | apply Kd.R_alloc | apply Kd.R_drewN | apply Kd.R_drew)); exact HO221.out) hb); have n1_ := Aside0.mk (below_step (by repeat (first | (with_reducible first | exact HB.out | apply below_alloc | apply pw_below_drewN | apply below_drew1) | exact HB.out)) hb); clear HO221; clear HB; have HO221 := n0_; have HB := n1_; clear n0_ n1_; (try clear hb); (try clear hb2); (try clear hk); (try clear hi)) | ((with_reducible refine gate_callee (f := 27) rfl ?_); refine goesL_ (some 29) rfl rfl Try.func27 (by kernel_rfl) rfl #[.int .i32 a1] rfl (by (try simp only [List.map_toArray, List.map_cons, List.map_nil]); first | done | rfl | (simp only [List.length_drop, List.length_take]; rfl)) ?_; (with_reducible refine (text_Encode.calls a1 t226 t227 _ A6.out).mono ?_); rintro e w' ⟨rfl, ⟨nd, rfl⟩⟩; refine ⟨_, rfl, ?_⟩) | ((with_reducible refine gate_callee (f := 28) rfl ?_); refine goesL_ (some 34) rfl rfl Try.func28 (by kernel_rfl) rfl #[.int .i32 a1] rfl (by (try simp only [List.map_toArray, List.map_cons, List.map_nil]); first | done | rfl | (simp only [List.length_drop, List.length_take]; rfl)) ?_; (with_reducible refine (atriumref15_Encode.calls a1 t228 t229 _ A7.out).mono ?_); rintro e w15 ⟨rfl, hb⟩; refine ⟨_, rfl, ?_⟩; have n0_ := Aside0.mk (Kd.R_below (by (with_reducible repeat (first | apply Kd.R_alloc | apply Kd.R_drewN | apply Kd.R_drew)); exact HO221.out) hb); have n1_ := Aside0.mk (below_step (by repeat (first | (with_reducible first | exact HB.out | apply below_alloc | apply pw_below_drewN | apply below_drew1) | exact HB.out)) hb); clear HO221; clear HB; have HO221 := n0_; have HB := n1_; clear n0_ n1_; (try clear hb); (try clear hb2); (try clear hk); (try clear hi)))
    (try simp only [Act.put, List.setIfInBounds_toArray, List.set_cons_zero, List.set_cons_succ])
    go_cut [64] (fun v64 wc => ∃ (kq : Nat) (x64_7 : Bool), v64 = .bool x64_7 ∧ Aside0 (atriumlaw15_TextEncodes.j0 kq l0 t222 t225 x64_7 = some r) ∧ Aside0 (kq ≤ k) ∧ Aside0 (Below w.heap.size w wc))
    case first =>
      have H := HC8.out
      clear HC8
      replace H := Option.bind_eq_some_iff.mp H
      obtain ⟨t230, A160, H⟩ := H
      replace H : (if t230 = true then (if t222.toList = t224.toList then (if t223 = t225 then (if t226.toList = t228.toList then (if t227 = t229 then ((atriumlaw15_sameRunes.f k y219 l0).bind fun t231 => (atriumlaw15_TextEncodes.j0 k l0 t222 t225 (!t231))) else (atriumlaw15_TextEncodes.j0 k l0 t222 t225 true)) else (atriumlaw15_TextEncodes.j0 k l0 t222 t225 true)) else (atriumlaw15_TextEncodes.j0 k l0 t222 t225 true)) else (atriumlaw15_TextEncodes.j0 k l0 t222 t225 true)) else (atriumlaw15_TextEncodes.j0 k l0 t222 t225 true)) = some r := H
      have A16 := Aside0.mk A160
      clear A160
      by_cases c17 : t230 = true
      · subst c17
        have H1 : (if t222.toList = t224.toList then (if t223 = t225 then (if t226.toList = t228.toList then (if t227 = t229 then ((atriumlaw15_sameRunes.f k y219 l0).bind fun t231 => (atriumlaw15_TextEncodes.j0 k l0 t222 t225 (!t231))) else (atriumlaw15_TextEncodes.j0 k l0 t222 t225 true)) else (atriumlaw15_TextEncodes.j0 k l0 t222 t225 true)) else (atriumlaw15_TextEncodes.j0 k l0 t222 t225 true)) else (atriumlaw15_TextEncodes.j0 k l0 t222 t225 true)) = some r := by rw [if_pos rfl] at H; exact H
        clear H
        have H := H1
        clear H1
        by_cases c18 : t222.toList = t224.toList
        · rw [if_pos c18] at H
          have c18b0 : (t222.toList == t224.toList) = true := beq_iff_eq.mpr c18
          have c18b1 : (t222.toList != t224.toList) = false := bne_eq_false_iff_eq.mpr c18
          clear c18
          (first | rw [c18b0] | (simp only [i64_w, i32_w]; rw [c18b0]) | skip)
          by_cases c19 : t223 = t225
          · rw [if_pos c19] at H
            have c19b0 : (t223 == t225) = true := beq_iff_eq.mpr c19
            have c19b1 : (t223 != t225) = false := bne_eq_false_iff_eq.mpr c19
            clear c19
            by_cases c20 : t226.toList = t228.toList
            · rw [if_pos c20] at H
              have c20b0 : (t226.toList == t228.toList) = true := beq_iff_eq.mpr c20
              have c20b1 : (t226.toList != t228.toList) = false := bne_eq_false_iff_eq.mpr c20
              clear c20
              by_cases c21 : t227 = t229
              · rw [if_pos c21] at H
                have c21b0 : (t227 == t229) = true := beq_iff_eq.mpr c21
                have c21b1 : (t227 != t229) = false := bne_eq_false_iff_eq.mpr c21
                clear c21
                replace H := Option.bind_eq_some_iff.mp H
                obtain ⟨t231, A220, H⟩ := H
                replace H : (atriumlaw15_TextEncodes.j0 k l0 t222 t225 (!t231)) = some r := H
                have A22 := Aside0.mk A220
                clear A220
                have H' := Aside0.mk H
                clear H
                go_wp2_with (first | ((with_reducible refine gate_callee (f := 11) rfl ?_); refine goesL_ (some 37) rfl rfl Try.func11 (by kernel_rfl) rfl #[] rfl (by (try simp only [List.map_toArray, List.map_cons, List.map_nil]); first | done | rfl | (simp only [List.length_drop, List.length_take]; rfl)) ?_; (with_reducible refine (atriumlaw15_lives.calls k  true _ A16.out).mono ?_); rintro e w23 ⟨rfl, hb⟩; refine ⟨_, rfl, ?_⟩; have n0_ := Aside0.mk (Kd.R_below (by (with_reducible repeat (first | apply Kd.R_alloc | apply Kd.R_drewN | apply Kd.R_drew)); exact HO221.out) hb); have n1_ := Aside0.mk (below_step (by repeat (first | (with_reducible first | exact HB.out | apply below_alloc | apply pw_below_drewN | apply below_drew1) | exact HB.out)) hb); clear HO221; clear HB; have HO221 := n0_; have HB := n1_; clear n0_ n1_; (try clear hb); (try clear hb2); (try clear hk); (try clear hi)) | (go_at_call 19; (with_reducible refine (atriumlaw15_sameRunes.calls k _ _ y219 _ _ l0 t231 _ ?side1 ?side2 ?side3 ?side4 A22.out).mono ?_); (case side1 => repeat (first | exact (Kd.R_reads' HO221.out).2.2 | (with_reducible refine Kd.C_alloc ?_ _) | (with_reducible refine Kd.C_drewN ?_ _) | (with_reducible refine Kd.C_drew ?_))); (case side2 => exact (Kd.R_reads' HO221.out).2.1); (case side3 => repeat (first | exact (Kd.C_below HR0.out HB.out) | (with_reducible refine Kd.C_alloc ?_ _) | (with_reducible refine Kd.C_drewN ?_ _) | (with_reducible refine Kd.C_drew ?_))); (case side4 => exact HC0.out); rintro e w' ⟨rfl, ⟨nd, rfl⟩⟩))
                go_meet
                case rel => exact ⟨_, (!t231), (by first | rfl | (simp; done) | (simp [*]; done)), H', ⟨by first | omega | exact Nat.le_refl _⟩, ⟨by repeat (first | (with_reducible first | exact HB.out | apply below_alloc | apply pw_below_drewN | apply below_drew1) | exact HB.out)⟩⟩
              · rw [if_neg c21] at H
                have c21b0 : (t227 == t229) = false := beq_eq_false_iff_ne.mpr c21
                have c21b1 : (t227 != t229) = true := bne_iff_ne.mpr c21
                have H' := Aside0.mk H
                clear H
                go_wp2_with (first | ((with_reducible refine gate_callee (f := 11) rfl ?_); refine goesL_ (some 37) rfl rfl Try.func11 (by kernel_rfl) rfl #[] rfl (by (try simp only [List.map_toArray, List.map_cons, List.map_nil]); first | done | rfl | (simp only [List.length_drop, List.length_take]; rfl)) ?_; (with_reducible refine (atriumlaw15_lives.calls k  true _ A16.out).mono ?_); rintro e w24 ⟨rfl, hb⟩; refine ⟨_, rfl, ?_⟩; have n0_ := Aside0.mk (Kd.R_below (by (with_reducible repeat (first | apply Kd.R_alloc | apply Kd.R_drewN | apply Kd.R_drew)); exact HO221.out) hb); have n1_ := Aside0.mk (below_step (by repeat (first | (with_reducible first | exact HB.out | apply below_alloc | apply pw_below_drewN | apply below_drew1) | exact HB.out)) hb); clear HO221; clear HB; have HO221 := n0_; have HB := n1_; clear n0_ n1_; (try clear hb); (try clear hb2); (try clear hk); (try clear hi)))
                go_meet
                case rel => exact ⟨_, (true), (by first | rfl | (simp; done) | (simp [*]; done)), H', ⟨by first | omega | exact Nat.le_refl _⟩, ⟨by repeat (first | (with_reducible first | exact HB.out | apply below_alloc | apply pw_below_drewN | apply below_drew1) | exact HB.out)⟩⟩
            · rw [if_neg c20] at H
              have c20b0 : (t226.toList == t228.toList) = false := beq_eq_false_iff_ne.mpr c20
              have c20b1 : (t226.toList != t228.toList) = true := bne_iff_ne.mpr c20
              have H' := Aside0.mk H
              clear H
              go_wp2_with (first | ((with_reducible refine gate_callee (f := 11) rfl ?_); refine goesL_ (some 37) rfl rfl Try.func11 (by kernel_rfl) rfl #[] rfl (by (try simp only [List.map_toArray, List.map_cons, List.map_nil]); first | done | rfl | (simp only [List.length_drop, List.length_take]; rfl)) ?_; (with_reducible refine (atriumlaw15_lives.calls k  true _ A16.out).mono ?_); rintro e w25 ⟨rfl, hb⟩; refine ⟨_, rfl, ?_⟩; have n0_ := Aside0.mk (Kd.R_below (by (with_reducible repeat (first | apply Kd.R_alloc | apply Kd.R_drewN | apply Kd.R_drew)); exact HO221.out) hb); have n1_ := Aside0.mk (below_step (by repeat (first | (with_reducible first | exact HB.out | apply below_alloc | apply pw_below_drewN | apply below_drew1) | exact HB.out)) hb); clear HO221; clear HB; have HO221 := n0_; have HB := n1_; clear n0_ n1_; (try clear hb); (try clear hb2); (try clear hk); (try clear hi)))
              go_meet
              case rel => exact ⟨_, (true), (by first | rfl | (simp; done) | (simp [*]; done)), H', ⟨by first | omega | exact Nat.le_refl _⟩, ⟨by repeat (first | (with_reducible first | exact HB.out | apply below_alloc | apply pw_below_drewN | apply below_drew1) | exact HB.out)⟩⟩
          · rw [if_neg c19] at H
            have c19b0 : (t223 == t225) = false := beq_eq_false_iff_ne.mpr c19
            have c19b1 : (t223 != t225) = true := bne_iff_ne.mpr c19
            have H' := Aside0.mk H
            clear H
            go_wp2_with (first | ((with_reducible refine gate_callee (f := 11) rfl ?_); refine goesL_ (some 37) rfl rfl Try.func11 (by kernel_rfl) rfl #[] rfl (by (try simp only [List.map_toArray, List.map_cons, List.map_nil]); first | done | rfl | (simp only [List.length_drop, List.length_take]; rfl)) ?_; (with_reducible refine (atriumlaw15_lives.calls k  true _ A16.out).mono ?_); rintro e w26 ⟨rfl, hb⟩; refine ⟨_, rfl, ?_⟩; have n0_ := Aside0.mk (Kd.R_below (by (with_reducible repeat (first | apply Kd.R_alloc | apply Kd.R_drewN | apply Kd.R_drew)); exact HO221.out) hb); have n1_ := Aside0.mk (below_step (by repeat (first | (with_reducible first | exact HB.out | apply below_alloc | apply pw_below_drewN | apply below_drew1) | exact HB.out)) hb); clear HO221; clear HB; have HO221 := n0_; have HB := n1_; clear n0_ n1_; (try clear hb); (try clear hb2); (try clear hk); (try clear hi)))
            go_meet
            case rel => exact ⟨_, (true), (by first | rfl | (simp; done) | (simp [*]; done)), H', ⟨by first | omega | exact Nat.le_refl _⟩, ⟨by repeat (first | (with_reducible first | exact HB.out | apply below_alloc | apply pw_below_drewN | apply below_drew1) | exact HB.out)⟩⟩
        · rw [if_neg c18] at H
          have c18b0 : (t222.toList == t224.toList) = false := beq_eq_false_iff_ne.mpr c18
          have c18b1 : (t222.toList != t224.toList) = true := bne_iff_ne.mpr c18
          (first | rw [c18b0] | (simp only [i64_w, i32_w]; rw [c18b0]) | skip)
          have H' := Aside0.mk H
          clear H
          go_wp2_with (first | ((with_reducible refine gate_callee (f := 11) rfl ?_); refine goesL_ (some 37) rfl rfl Try.func11 (by kernel_rfl) rfl #[] rfl (by (try simp only [List.map_toArray, List.map_cons, List.map_nil]); first | done | rfl | (simp only [List.length_drop, List.length_take]; rfl)) ?_; (with_reducible refine (atriumlaw15_lives.calls k  true _ A16.out).mono ?_); rintro e w27 ⟨rfl, hb⟩; refine ⟨_, rfl, ?_⟩; have n0_ := Aside0.mk (Kd.R_below (by (with_reducible repeat (first | apply Kd.R_alloc | apply Kd.R_drewN | apply Kd.R_drew)); exact HO221.out) hb); have n1_ := Aside0.mk (below_step (by repeat (first | (with_reducible first | exact HB.out | apply below_alloc | apply pw_below_drewN | apply below_drew1) | exact HB.out)) hb); clear HO221; clear HB; have HO221 := n0_; have HB := n1_; clear n0_ n1_; (try clear hb); (try clear hb2); (try clear hk); (try clear hi)))
          go_meet
          case rel => exact ⟨_, (true), (by first | rfl | (simp; done) | (simp [*]; done)), H', ⟨by first | omega | exact Nat.le_refl _⟩, ⟨by repeat (first | (with_reducible first | exact HB.out | apply below_alloc | apply pw_below_drewN | apply below_drew1) | exact HB.out)⟩⟩
      · replace c17 := Bool.eq_false_iff.mpr c17
        subst c17
        have H1 : (atriumlaw15_TextEncodes.j0 k l0 t222 t225 true) = some r := by rw [if_neg (show ¬ (false = true) by decide)] at H; exact H
        clear H
        have H := H1
        clear H1
        have H' := Aside0.mk H
        clear H
        go_wp2_with (first | ((with_reducible refine gate_callee (f := 11) rfl ?_); refine goesL_ (some 37) rfl rfl Try.func11 (by kernel_rfl) rfl #[] rfl (by (try simp only [List.map_toArray, List.map_cons, List.map_nil]); first | done | rfl | (simp only [List.length_drop, List.length_take]; rfl)) ?_; (with_reducible refine (atriumlaw15_lives.calls k  false _ A16.out).mono ?_); rintro e w28 ⟨rfl, hb⟩; refine ⟨_, rfl, ?_⟩; have n0_ := Aside0.mk (Kd.R_below (by (with_reducible repeat (first | apply Kd.R_alloc | apply Kd.R_drewN | apply Kd.R_drew)); exact HO221.out) hb); have n1_ := Aside0.mk (below_step (by repeat (first | (with_reducible first | exact HB.out | apply below_alloc | apply pw_below_drewN | apply below_drew1) | exact HB.out)) hb); clear HO221; clear HB; have HO221 := n0_; have HB := n1_; clear n0_ n1_; (try clear hb); (try clear hb2); (try clear hk); (try clear hi)))
        go_meet
        case rel => exact ⟨_, (true), (by first | rfl | (simp; done) | (simp [*]; done)), H', ⟨by first | omega | exact Nat.le_refl _⟩, ⟨by repeat (first | (with_reducible first | exact HB.out | apply below_alloc | apply pw_below_drewN | apply below_drew1) | exact HB.out)⟩⟩
    case rest =>
      clear HC8
      try clear c1
      try clear c2
      try clear p2
      try clear c3
      try clear c7
      try clear c11
      try clear c17
      try clear c18
      try clear c18b0
      try clear c18b1
      try clear c19
      try clear c19b0
      try clear c19b1
      try clear c20
      try clear c20b0
      try clear c20b1
      try clear c21
      try clear c21b0
      try clear c21b1
      try clear c25
      try clear c26
      try clear c27
      try clear c28
      obtain ⟨kq, x64_7, rfl, HA, HJ7, HB⟩ := hcut
      cases kq with
      | zero => exact absurd HA.out (by simp [atriumlaw15_TextEncodes.j0])
      | succ kj7 =>
        have H := HA.out
        clear HA
        simp only [atriumlaw15_TextEncodes.j0] at H
        by_cases c29 : x64_7 = true
        · subst c29
          have H1 : (some false) = some r := by rw [if_pos rfl] at H; exact H
          clear H
          have H := H1
          clear H1
          obtain rfl := Option.some.inj H
          go_wp2
          go_ret
          exact ⟨by first | rfl | (simp [errW_none, errW_some] <;> rfl) | (simp [*, errW_none, errW_some] <;> rfl), by repeat (first | (with_reducible first | exact HB.out | apply below_alloc | apply pw_below_drewN | apply below_drew1) | exact HB.out)⟩
        · replace c29 := Bool.eq_false_iff.mpr c29
          subst c29
          have H1 : (if t225 = 0 then ((text_Runes.f t222).bind fun t232 => ((atriumlaw15_sameRunes.f kj7 t232 l0).bind fun t235 => (some t235))) else (some true)) = some r := by rw [if_neg (show ¬ (false = true) by decide)] at H; exact H
          clear H
          have H := H1
          clear H1
          by_cases c30 : t225 = 0
          · rw [if_pos c30] at H
            have c30b0 : (t225 == 0) = true := beq_iff_eq.mpr c30
            have c30b1 : (t225 != 0) = false := bne_eq_false_iff_eq.mpr c30
            clear c30
            replace H := Option.bind_eq_some_iff.mp H
            obtain ⟨t232, A310, H⟩ := H
            replace H : ((atriumlaw15_sameRunes.f kj7 t232 l0).bind fun t235 => (some t235)) = some r := H
            have A31 := Aside0.mk A310
            clear A310
            replace H := Option.bind_eq_some_iff.mp H
            obtain ⟨t235, A320, H⟩ := H
            replace H : (some t235) = some r := H
            have A32 := Aside0.mk A320
            clear A320
            obtain rfl := Option.some.inj H
            go_wp2_with (first | (go_at_call 20; (with_reducible refine (text_Runes.calls t222 t232 _ A31.out).mono ?_); rintro e w33 ⟨v233, rfl, ho0, hb⟩; have n0_ := Aside0.mk (Kd.R_lower ho0 (below_size (by repeat (first | (with_reducible first | exact HB.out | apply below_alloc | apply pw_below_drewN | apply below_drew1) | exact HB.out)))); have n1_ := Aside0.mk (below_step (by repeat (first | (with_reducible first | exact HB.out | apply below_alloc | apply pw_below_drewN | apply below_drew1) | exact HB.out)) hb); clear HB; have HO234 := n0_; have HB := n1_; clear n0_ n1_; (try clear hb); (try clear hb2); (try clear hk); (try clear hi); (try clear ho0); obtain ⟨Ao34, co34, eo34⟩ := Kd.R_slice HO234.out; subst eo34) | (go_at_call 19; (with_reducible refine (atriumlaw15_sameRunes.calls kj7 _ _ t232 _ _ l0 t235 _ ?side1 ?side2 ?side3 ?side4 A32.out).mono ?_); (case side1 => repeat (first | exact (Kd.R_reads' HO234.out).2.2 | (with_reducible refine Kd.C_alloc ?_ _) | (with_reducible refine Kd.C_drewN ?_ _) | (with_reducible refine Kd.C_drew ?_))); (case side2 => exact (Kd.R_reads' HO234.out).2.1); (case side3 => repeat (first | exact (Kd.C_below HR0.out HB.out) | (with_reducible refine Kd.C_alloc ?_ _) | (with_reducible refine Kd.C_drewN ?_ _) | (with_reducible refine Kd.C_drew ?_))); (case side4 => exact HC0.out); rintro e w' ⟨rfl, ⟨nd, rfl⟩⟩))
            go_ret
            exact ⟨by first | rfl | (simp [errW_none, errW_some] <;> rfl) | (simp [*, errW_none, errW_some] <;> rfl), by repeat (first | (with_reducible first | exact HB.out | apply below_alloc | apply pw_below_drewN | apply below_drew1) | exact HB.out)⟩
          · rw [if_neg c30] at H
            have c30b0 : (t225 == 0) = false := beq_eq_false_iff_ne.mpr c30
            have c30b1 : (t225 != 0) = true := bne_iff_ne.mpr c30
            obtain rfl := Option.some.inj H
            go_wp2
            go_ret
            exact ⟨by first | rfl | (simp [errW_none, errW_some] <;> rfl) | (simp [*, errW_none, errW_some] <;> rfl), by repeat (first | (with_reducible first | exact HB.out | apply below_alloc | apply pw_below_drewN | apply below_drew1) | exact HB.out)⟩
  · rw [if_neg c3] at H
    exact absurd H (by simp)

/-- THE ONE PURE STATEMENT of atriumlaw15_TextEncodes: yours. -/
def atriumlaw15_TextEncodes.Pure : Prop := ∀ (l0 : List Int) (a1 : Int), l0.length ≤ maxLen → l0.length * 4 ≤ 140737488351232 → (∀ x ∈ l0, (Lit.int .i32 x).wf = true) → (Lit.int .i32 a1).wf = true → ∃ k, atriumlaw15_TextEncodes.f k l0 a1 = some true
theorem atriumlaw15_TextEncodes.walk (P : atriumlaw15_TextEncodes.Pure) (a0 : Option Addr) (len0 cap0 : Nat) (z0 : List Int) (a1 : Int) (w : World) (w0 : (a0 = none ∧ len0 = 0 ∧ cap0 = 0 ∧ z0 = []) ∨ ∃ x, a0 = some x ∧ len0 ≤ cap0 ∧ cap0 ≤ maxLen ∧ z0.length = cap0 ∧ (∀ i, i < z0.length → w.cell? (x.add i) = some (.int .i32 (z0.getD i 0))) ∧ ∀ n ∈ z0, (Lit.int .i32 n).wf = true) (y0 : len0 * 4 ≤ 140737488351232) (w1 : (Lit.int .i32 a1).wf = true) :
    Calls Try.prog 7 #[.slice a0 len0 cap0, .int .i32 a1] w fun e w' => e = .returned (.bool true) ∧ Below w.heap.size w w' := by
  obtain ⟨l0, rfl, hr0, hm0, hw0, hc0⟩ := ReadsInt.ofRowC w0
  obtain ⟨k, h⟩ := P l0 a1 hm0 y0 hw0 w1
  refine (atriumlaw15_TextEncodes.calls k _ _ l0 a1 true w (Kd.C_of_reads (d := (0 : Int)) (h1 := fun _ => rfl) hr0) hc0 h).mono ?_
  rintro e w' ⟨rfl, hd⟩
  exact ⟨rfl, hd⟩

end Go.Proofs.Ytkekkabelnmlnaa.PT
