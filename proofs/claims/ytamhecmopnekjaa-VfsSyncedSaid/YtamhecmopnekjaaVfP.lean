/- vfs: plays. -/
import Derived.Test.YtamhecmopnekjaaVfII
namespace Go.Proofs.Ytamhecmopnekjaa.Vf
open Go Go.RowKit Go.Maps Go.Proofs.Ytamhecmopnekjaa Go.Proofs.YtamhecmopnekjaaW.PrintWords
set_option linter.unusedVariables false
set_option linter.unusedSimpArgs false

abbrev SOp : Type := Ty.S50
abbrev kOp : Kd SOp := Ty.k50
def rdOp (xs : List SOp) (i : Int) : SOp := Ty.rd_T50 xs i
def toB (l : List Int) : List UInt8 := l.map fun x => UInt8.ofNat x.toNat
theorem toB_len (l : List Int) : (toB l).length = l.length := List.length_map _
theorem nb_toB (l : List Int) (h : ∀ x ∈ l, (Lit.int .u8 x).wf = true) : nb (toB l) = l := by
  unfold nb toB
  rw [List.map_map]
  conv => rhs; rw [← List.map_id l]
  apply List.map_congr_left
  intro x hx
  have hw := h x hx
  have hr : 0 ≤ x ∧ x ≤ 255 := by
    unfold Lit.wf at hw
    rw [Bool.and_eq_true, decide_eq_true_eq, decide_eq_true_eq] at hw
    have h1 : IntKind.u8.min = 0 := by decide
    have h2 : IntKind.u8.max = 255 := by decide
    omega
  show ((UInt8.ofNat x.toNat).toNat : Int) = x
  rw [UInt8.toNat_ofNat']
  omega
theorem reads_toB {w : World} {A : Option Addr} {l : List Int} (h : Kd.C (Kd.int .u8) w A l.length l) (hw : ∀ x ∈ l, (Lit.int .u8 x).wf = true) : ReadsInt w .u8 A (toB l).length (nb (toB l)) := by
  rw [nb_toB l hw, toB_len]
  exact Kd.reads_of_C (d := (0 : Int)) h
abbrev SFault : Type := Ty.S89
def toF (x : SFault) : Fault := ⟨x.f0, x.f1, x.f2⟩
theorem C_toF {w : World} {A : Option Addr} {n : Nat} {xs : List SFault} (h : Kd.C Ty.k89 w A n xs) : kFault.C w A n (xs.map toF) := by
  refine ⟨by rw [List.length_map]; exact h.1, h.2.1, fun hn => ?_⟩
  obtain ⟨ad, e, hc⟩ := h.2.2 hn
  refine ⟨ad, e, fun j p hj => ?_⟩
  rw [List.getElem?_map] at hj
  cases hx : xs[j]? with
  | none => rw [hx] at hj; cases hj
  | some y =>
    rw [hx] at hj
    injection hj with hj
    subst hj
    exact hc j y hx
/-- A call that may be handed in. -/
structure OpOk (x : SOp) : Prop where
  n1 : x.f1.size ≤ 140737488351232
  n2 : x.f2.size ≤ 140737488351232
  bl : x.f5.length ≤ 140737488351232
  bw : ∀ e ∈ x.f5, (Lit.int .u8 e).wf = true
  fw : ∀ e ∈ x.f6, (Lit.int .i64 e.f0).wf = true ∧ (Lit.int .i64 e.f1).wf = true
set_option maxHeartbeats 8000000 in
set_option maxRecDepth 100000 in
theorem plays_any (cap : Int) (A : Option Addr) (c : Nat) (xs : List SOp) (w : World) (hC : Kd.C kOp w A xs.length xs) (hc : xs.length ≤ c) (hl : xs.length ≤ 1500000000000) (hok : ∀ x ∈ xs, OpOk x) :
    Calls Try.prog 20 #[.int .i64 cap, .slice A xs.length c] w fun e w' => Below w.heap.size w w' ∧
      ((e = .returned (.tuple #[.pointer none, .bool true])) ∨ (∃ g S, e = .returned (.tuple #[.pointer (some ⟨g, 0, none⟩), .bool true]) ∧ 0 ≤ cap ∧ cap ≤ 16777216 ∧ Up w g cap xs.length S w')) := by
  have huo := Try.underlying50
  have huc := Try.underlying25
  by_cases hcap : cap < 0 ∨ 16777216 < cap
  · have HN := Aside0.mk (new_none cap w hcap)
    clear hcap hC hok
    go_enter Try.func20, Try.ntmps20
    go_wp2_with (go_at_call 10; refine HN.out.mono ?_; rintro e w1 ⟨rfl, hw⟩; rw [hw]; clear hw w1)
    go_ret2
    exact ⟨Below.refl _ _, .inl rfl⟩
  · have HN := Aside0.mk (new_some cap w (by omega) (by omega))
    have Hcap := Aside0.mk (show 0 ≤ cap ∧ cap ≤ 16777216 by omega)
    have HC := Aside0.mk hC
    have Hok := Aside0.mk hok
    have hlen : (xs.length : Int) ≤ 1500000000000 := by omega
    clear hcap hC hok
    go_enter Try.func20, Try.ntmps20
    go_wp2_with (go_at_call 10; refine HN.out.mono ?_; rintro e w1 ⟨rfl, hf, _⟩; have HF := Aside0.mk hf; clear hf)
    have HU0 := Aside0.mk (show Up w (w.heap.size + 3) cap 0 (st0 cap w.heap.size) w1 from ⟨HF.out, inv_st0 cap _ Hcap.out.1 Hcap.out.2, ⟨Nat.le_refl _, Nat.le_refl _, by decide⟩, rfl⟩)
    generalize hg : w.heap.size + 3 = g at *
    go_loopw [8] (fun iv wr => ∃ (i : Nat) (S : St), i ≤ xs.length ∧ iv = .int .i64 i ∧ Aside0 (Up w g cap i S wr)) (fun iv _ => xs.length - (intOf iv).toNat)
    case atStart => exact ⟨0, _, Nat.zero_le _, rfl, HU0⟩
    case round =>
      clear HU0 HF
      obtain ⟨i, S, hi, rfl, HU⟩ := hrel
      by_cases hlt : i < xs.length
      · obtain ⟨ad, A5, c5, A6, c6, A8, c8, rfl, z0, z1, z2, z3', z4, z5, z6, z7, z8, l5, C5, l6, C6, l8, C8⟩ := Ty.at_T50 (Kd.C_below HC.out HU.out.fs.be) (i : Int) (by omega) (by omega)
        have hox : OpOk (Ty.rd_T50 xs (i : Int)) := by
          unfold Ty.rd_T50
          rw [Int.toNat_natCast, List.getD_eq_getElem?_getD, List.getElem?_eq_getElem hlt]
          exact Hok.out _ (List.getElem_mem hlt)
        rw [Int.toNat_natCast] at z0 z1 z2 z3' z4 z5 z6 z7 z8
        generalize Ty.rd_T50 xs (i : Int) = x at *
        have hli : (i : Int) < (xs.length : Int) := by omega
        have hbx : Below wr.heap.size wr (wr.alloc (.cells #[.int .i64 x.f0, .string x.f1, .string x.f2, .int .i64 x.f3, .int .i64 x.f4, .slice A5 x.f5.length c5, .slice A6 x.f6.length c6, .int .i64 x.f7.f0, .slice A8 x.f7.f1.length c8] 50)) := (Below.refl _ _).alloc (Nat.le_refl _) _
        have HUb := Aside0.mk (HU.out.below hbx)
        have hi1 : i + 1 ≤ 2000000000000 := by omega
        have HCr := Aside0.mk (create_up x.f1 HUb.out hi1 (by have := hox.n1; omega))
        have HAp := Aside0.mk (append_up x.f1 A5 c5 (toB x.f5) HUb.out hi1 (by have := hox.n1; omega) (reads_toB (Kd.C_below C5 hbx) hox.bw) (by rw [toB_len]; exact l5) (by rw [toB_len]; exact hox.bl))
        rw [toB_len] at HAp
        have HSy := Aside0.mk (sync_up x.f1 HUb.out hi1 (by have := hox.n1; omega))
        have HRn := Aside0.mk (rename_up x.f1 x.f2 HUb.out hi1 (by have := hox.n1; omega) (by have := hox.n2; omega))
        have HRm := Aside0.mk (remove_up x.f1 HUb.out hi1 (by have := hox.n1; omega))
        have HSd := Aside0.mk (dir_up HUb.out hi1)
        have HFa := Aside0.mk (fail_up A6 c6 (x.f6.map toF) HUb.out hi1 (by rw [List.length_map]; exact C_toF (Kd.C_below C6 hbx)) (by rw [List.length_map]; exact l6) (fun y hy => by
          obtain ⟨e, he, rfl⟩ := List.mem_map.1 hy
          exact hox.fw e he))
        rw [List.length_map] at HFa
        have HUm := Aside0.mk (HUb.out.more (Nat.le_succ i) hi1)
        obtain ⟨kd, hkd⟩ : ∃ kd, x.f0 = kd := ⟨_, rfl⟩
        rw [hkd] at z0 HCr HAp HSy HRn HRm HSd HFa HUm
        clear hox l5 C5 l6 C6 l8 C8 hbx hi1 HUb
        rcases (show kd = 1 ∨ kd = 2 ∨ kd = 3 ∨ kd = 4 ∨ kd = 5 ∨ kd = 6 ∨ kd = 8 ∨ (kd ≠ 1 ∧ kd ≠ 2 ∧ kd ≠ 3 ∧ kd ≠ 4 ∧ kd ≠ 5 ∧ kd ≠ 6 ∧ kd ≠ 8) by omega) with h | h | h | h | h | h | h | ⟨h1, h2, h3, h4, h5, h6, h8⟩
        case inr.inr.inr.inr.inr.inr.inr =>
          have e1 : (kd == 1) = false := beq_eq_false_iff_ne.2 h1
          have e2 : (kd == 2) = false := beq_eq_false_iff_ne.2 h2
          have e3 : (kd == 3) = false := beq_eq_false_iff_ne.2 h3
          have e4 : (kd == 4) = false := beq_eq_false_iff_ne.2 h4
          have e5 : (kd == 5) = false := beq_eq_false_iff_ne.2 h5
          have e6 : (kd == 6) = false := beq_eq_false_iff_ne.2 h6
          have e8 : (kd == 8) = false := beq_eq_false_iff_ne.2 h8
          clear h1 h2 h3 h4 h5 h6 h8 hkd
          go_wp2
          go_roundw
          case rel => exact ⟨i + 1, S, by omega, by go_num, HUm⟩
          case measure => simp [intOf]; omega
        all_goals
          clear hkd
          subst h
          go_wp2_with (first
            | (go_at_call 11; refine HCr.out.mono ?_; rintro e w2 ⟨⟨v, rfl⟩, hk, S', hu⟩; have HU2 := Aside0.mk hu; clear hu hk)
            | (go_at_call 12; refine HAp.out.mono ?_; rintro e w2 ⟨⟨v, rfl⟩, hk, S', hu⟩; have HU2 := Aside0.mk hu; clear hu hk)
            | (go_at_call 13; refine HSy.out.mono ?_; rintro e w2 ⟨⟨v, rfl⟩, hk, S', hu⟩; have HU2 := Aside0.mk hu; clear hu hk)
            | (go_at_call 15; refine HRn.out.mono ?_; rintro e w2 ⟨⟨v, rfl⟩, hk, S', hu⟩; have HU2 := Aside0.mk hu; clear hu hk)
            | (go_at_call 24; refine HRm.out.mono ?_; rintro e w2 ⟨⟨v, rfl⟩, hk, S', hu⟩; have HU2 := Aside0.mk hu; clear hu hk)
            | (go_at_call 14; refine HSd.out.mono ?_; rintro e w2 ⟨⟨v, rfl⟩, hk, S', hu⟩; have HU2 := Aside0.mk hu; clear hu hk)
            | (go_at_call 21; refine HFa.out.mono ?_; rintro e w2 ⟨⟨v, rfl⟩, hk, S', hu⟩; have HU2 := Aside0.mk hu; clear hu hk))
          go_roundw
          case rel => exact ⟨i + 1, S', by omega, by go_num, HU2⟩
          case measure => simp [intOf]; omega
      · obtain rfl : i = xs.length := by omega
        go_wp2
        go_ret2
        exact ⟨HU.out.fs.be, .inr ⟨g, S, rfl, Hcap.out.1, Hcap.out.2, HU.out⟩⟩
end Go.Proofs.Ytamhecmopnekjaa.Vf
