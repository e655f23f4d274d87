/- VfsTwice: its walk. -/
import Derived.Test.YtamhecmopnekjaaVfTw
namespace Go.Proofs.Ytamhecmopnekjaa.Vf
open Go Go.RowKit Go.Maps Go.Proofs.Ytamhecmopnekjaa Go.Proofs.YtamhecmopnekjaaW.PrintWords
set_option linter.unusedVariables false
set_option linter.unusedSimpArgs false

set_option maxHeartbeats 8000000 in
set_option maxRecDepth 100000 in
theorem twice_any (cap : Int) (A : Option Addr) (c : Nat) (xs : List SOp) (d1 : Int) (A1 : Option Addr) (c1 : Nat) (ks1 : List Int) (d2 : Int) (A2 : Option Addr) (c2 : Nat) (ks2 : List Int) (w : World) (hC : Kd.C kOp w A xs.length xs) (hc : xs.length ≤ c) (hl : xs.length ≤ 1500000000000) (hok : ∀ x ∈ xs, OpOk x)
    (hC1 : Kd.C (Kd.int .i64) w A1 ks1.length ks1) (hc1 : ks1.length ≤ c1) (hC2 : Kd.C (Kd.int .i64) w A2 ks2.length ks2) (hc2 : ks2.length ≤ c2) :
    Calls Try.prog 5 #[.int .i64 cap, .slice A xs.length c, .agg #[.int .i64 d1, .slice A1 ks1.length c1], .agg #[.int .i64 d2, .slice A2 ks2.length c2]] w fun e w' => e = .returned (.bool true) ∧ Below w.heap.size w w' := by
  have huc := Try.underlying25
  obtain ⟨wb, hwb⟩ : ∃ wb, (w.alloc (.cells #[.int .i64 d1, .slice A1 ks1.length c1] 25)).alloc (.cells #[.int .i64 d2, .slice A2 ks2.length c2] 25) = wb := ⟨_, rfl⟩
  have hb0 : Below w.heap.size w wb := by rw [← hwb]; exact below_alloc ((Below.refl _ _).alloc (Nat.le_refl _) _) _
  have hs1 := size_alloc w (.cells #[.int .i64 d1, .slice A1 ks1.length c1] 25)
  have hx1 : wb.heap[w.heap.size]? = some (.cells #[.int .i64 d1, .slice A1 ks1.length c1] 25 (0, 0)) := by rw [← hwb]; exact (Go.heap_alloc_old _ _ (by rw [hs1]; omega)).trans (heap_alloc_new w _)
  have hx2 : wb.heap[w.heap.size + 1]? = some (.cells #[.int .i64 d2, .slice A2 ks2.length c2] 25 (0, 0)) := by
    rw [← hwb]
    have := heap_alloc_new (w.alloc (.cells #[.int .i64 d1, .slice A1 ks1.length c1] 25)) (.cells #[.int .i64 d2, .slice A2 ks2.length c2] 25)
    rw [hs1] at this
    exact this
  have HB0 := Aside0.mk hb0
  have HX1 := Aside0.mk hx1
  have HX2 := Aside0.mk hx2
  have HC := Aside0.mk hC
  have HC1 := Aside0.mk hC1
  have HC2 := Aside0.mk hC2
  have Hok := Aside0.mk hok
  clear hb0 hx1 hx2 hC hC1 hC2 hok hs1
  go_enter Try.func5, Try.ntmps5
  go_wp2_with (go_at_call 9; refine (lives_any _).mono ?_; rintro e w1 ⟨rfl, hb⟩; have HB1 := Aside0.mk (HB0.out.trans (hb.mono HB0.out.size)); have HX1' := Aside0.mk ((hb.block _ (blk_lt HX1.out)).trans HX1.out); have HX2' := Aside0.mk ((hb.block _ (blk_lt HX2.out)).trans HX2.out); clear hb)
  refine (plays_any cap A c xs w1 (Kd.C_below HC.out HB1.out) hc hl Hok.out).mono ?_
  rintro e w2 ⟨hb2, rfl | ⟨g, S, rfl, hc0, hc3, hu⟩⟩
  · have HB2 := Aside0.mk (HB1.out.trans (hb2.mono HB1.out.size))
    clear hb2
    go_wp2
    go_ret
    exact ⟨rfl, HB2.out⟩
  have HB2 := Aside0.mk (HB1.out.trans (hb2.mono HB1.out.size))
  have HY1 := Aside0.mk ((hb2.block _ (blk_lt HX1'.out)).trans HX1'.out)
  have HY2 := Aside0.mk ((hb2.block _ (blk_lt HX2'.out)).trans HX2'.out)
  have y10 : w2.cell? ⟨w.heap.size, 0, none⟩ = some (.int .i64 d1) := (blk_cell HY1.out 0).trans rfl
  have y11 : w2.cell? ⟨w.heap.size, 1, none⟩ = some (.slice A1 ks1.length c1) := (blk_cell HY1.out 1).trans rfl
  have HU := Aside0.mk hu
  clear hb2 hu
  go_wp2_with (fail)
  have hread : ∀ (W w' : World), Below w.heap.size w W → Below W.heap.size W w' → ReadsInt w' .i64 A1 ks1.length ks1 := fun W w' h1 h2 => Kd.reads_of_C (d := (0 : Int)) (Kd.C_below HC1.out (h1.trans (h2.mono h1.size)))
  have hread2 : ∀ (W w' : World), Below w.heap.size w W → Below W.heap.size W w' → ReadsInt w' .i64 A2 ks2.length ks2 := fun W w' h1 h2 => Kd.reads_of_C (d := (0 : Int)) (Kd.C_below HC2.out (h1.trans (h2.mono h1.size)))
  refine (crash_x HU.out.fs HU.out.sm HU.out.iv.ok (fun w' h1 _ => hread w1 w' HB1.out h1) hc1).mono ?_
  have HR2 := Aside0.mk hread2
  clear hread hread2
  rintro e w3 ⟨hk3, hcr⟩
  have hU := HU.out
  rcases hcr with ⟨rfl, hf3⟩ | ⟨rfl, S1, hf3, hcr⟩
  case inl =>
    have HF3 := Aside0.mk hf3
    have HK3 := Aside0.mk hk3
    clear hf3 hk3 hU y10 y11
    go_wp2_with (fail)
    refine (crash_plain HF3.out HU.out.sm HU.out.iv.ok).mono ?_
    rintro e w4 ⟨hk4, rfl, S1, hf4, hcr⟩
    have HF4 := Aside0.mk hf4
    have HK4 := Aside0.mk (HK3.out.trans hk4)
    have HCm := Aside0.mk (hcr.calm HF3.out HU.out.sm HU.out.iv.ok hf4)
    clear hf4 hk4 hcr HF3 HK3
    go_wp2_with (fail)
    refine (files_any w1 g S1 _ w4 HF4.out HCm.out.sm HCm.out.ok).mono ?_
    rintro e w5 ⟨v5, rfl, hr5, hb5⟩
    obtain ⟨A5, c5, rfl, l5, C5⟩ := Kd.R_reads hr5
    have hp1 : w.heap.size + 1 < w1.heap.size := blk_lt HX2'.out
    obtain ⟨p0, pf, hB6, hF6, p1, p2⟩ := box_set hp1 (Nat.le_succ _) HB1.out (HF4.out.below hb5) ((hb5.block _ (blk_lt (box_kept HK4.out HY2.out))).trans (box_kept HK4.out HY2.out))
    have hr6 := files_set (i := 0) (u := .int .i64 0) hr5 (Nat.lt_of_lt_of_le hp1 HF4.out.be.size)
    obtain ⟨W6, hW6⟩ : ∃ W6, w5.setCell ⟨w.heap.size + 1, 0, none⟩ (.int .i64 0) = W6 := ⟨_, rfl⟩
    rw [hW6] at hF6 p1 p2 hr6
    have HB6 := Aside0.mk hB6
    have HF6 := Aside0.mk hF6
    have HR6 := Aside0.mk hr6
    clear hr5 hb5 l5 C5 hp1 hB6 hF6 hr6
    go_wp2_with (fail)
    refine (crash_x HF6.out HCm.out.sm HCm.out.ok (fun w' h1 _ => HR2.out _ w' HB6.out h1) hc2).mono ?_
    rintro e w7 ⟨hk7, ⟨rfl, hf7⟩ | ⟨rfl, S2, hf7, hcr7⟩⟩
    case inl =>
      have HF7 := Aside0.mk hf7
      have HK7 := Aside0.mk hk7
      clear hf7 hk7 p0 pf p1 p2
      go_wp2_with (fail)
      refine (crash_plain HF7.out HCm.out.sm HCm.out.ok).mono ?_
      rintro e w8 ⟨hk8, rfl, S2, hf8, hcr7⟩
      have HF8 := Aside0.mk hf8
      have HC8 := Aside0.mk (hcr7.calm HF7.out HCm.out.sm HCm.out.ok hf8)
      have HS8 := Aside0.mk (hcr7.still HCm.out)
      have HR8 := Aside0.mk (files_kept hk8 (files_kept HK7.out HR6.out))
      clear hf8 hk8 hcr7 HF7 HK7
      go_wp2_with (fail)
      refine (files_any _ g S2 _ w8 HF8.out HC8.out.sm HC8.out.ok).mono ?_
      rintro e w9 ⟨v9, rfl, hr9, hb9⟩
      rw [HS8.out] at hr9
      obtain ⟨A9, c9, rfl, l9, C9⟩ := Kd.R_reads hr9
      obtain ⟨_, l8, C8⟩ := Kd.R_reads' (Kd.R_below HR8.out hb9)
      have HB9 := Aside0.mk (HB6.out.trans ((HF8.out.be.trans (hb9.mono HF8.out.be.size)).mono HB6.out.size))
      have HCa := Aside0.mk C9
      have HCb := Aside0.mk C8
      have hlen : (files S1).length < 9223372036854775807 := by
        have := HCm.out.sm.se
        rw [files_len]
        omega
      have HSf := Aside0.mk (sameF_f (files S1) 1048576 hlen (by decide) (files_le HF4.out HCm.out.ok))
      clear hr9 hb9 C9 C8 hlen
      go_wp2_with (fail)
      refine (PB.atriumlaw01_SameFiles.calls _ A9 c9 (files S1) A5 c5 (files S1) true w9 HCa.out l9 HCb.out l8 HSf.out).mono ?_
      rintro e w10 ⟨rfl, hb10⟩
      have HB10 := Aside0.mk (HB9.out.trans (hb10.mono HB9.out.size))
      clear hb10
      go_wp2
      go_ret
      exact ⟨rfl, HB10.out⟩
    case inr =>
      have HF8 := Aside0.mk hf7
      have HC8 := Aside0.mk (hcr7.calm HF6.out HCm.out.sm HCm.out.ok hf7)
      have HS8 := Aside0.mk (hcr7.still HCm.out)
      have HR8 := Aside0.mk (files_kept hk7 HR6.out)
      clear hf7 hk7 hcr7 p0 pf p1 p2
      generalize w7 = w8 at *
      go_wp2_with (fail)
      refine (files_any _ g S2 _ w8 HF8.out HC8.out.sm HC8.out.ok).mono ?_
      rintro e w9 ⟨v9, rfl, hr9, hb9⟩
      rw [HS8.out] at hr9
      obtain ⟨A9, c9, rfl, l9, C9⟩ := Kd.R_reads hr9
      obtain ⟨_, l8, C8⟩ := Kd.R_reads' (Kd.R_below HR8.out hb9)
      have HB9 := Aside0.mk (HB6.out.trans ((HF8.out.be.trans (hb9.mono HF8.out.be.size)).mono HB6.out.size))
      have HCa := Aside0.mk C9
      have HCb := Aside0.mk C8
      have hlen : (files S1).length < 9223372036854775807 := by
        have := HCm.out.sm.se
        rw [files_len]
        omega
      have HSf := Aside0.mk (sameF_f (files S1) 1048576 hlen (by decide) (files_le HF4.out HCm.out.ok))
      clear hr9 hb9 C9 C8 hlen
      go_wp2_with (fail)
      refine (PB.atriumlaw01_SameFiles.calls _ A9 c9 (files S1) A5 c5 (files S1) true w9 HCa.out l9 HCb.out l8 HSf.out).mono ?_
      rintro e w10 ⟨rfl, hb10⟩
      have HB10 := Aside0.mk (HB9.out.trans (hb10.mono HB9.out.size))
      clear hb10
      go_wp2
      go_ret
      exact ⟨rfl, HB10.out⟩
  case inr =>
    have HF4 := Aside0.mk hf3
    have HK4 := Aside0.mk hk3
    have HCm := Aside0.mk (hcr.calm HU.out.fs HU.out.sm HU.out.iv.ok hf3)
    clear hf3 hk3 hU y10 y11 hcr
    generalize w3 = w4 at *
    go_wp2_with (fail)
    refine (files_any w1 g S1 _ w4 HF4.out HCm.out.sm HCm.out.ok).mono ?_
    rintro e w5 ⟨v5, rfl, hr5, hb5⟩
    obtain ⟨A5, c5, rfl, l5, C5⟩ := Kd.R_reads hr5
    have hp1 : w.heap.size + 1 < w1.heap.size := blk_lt HX2'.out
    obtain ⟨p0, pf, hB6, hF6, p1, p2⟩ := box_set hp1 (Nat.le_succ _) HB1.out (HF4.out.below hb5) ((hb5.block _ (blk_lt (box_kept HK4.out HY2.out))).trans (box_kept HK4.out HY2.out))
    have hr6 := files_set (i := 0) (u := .int .i64 0) hr5 (Nat.lt_of_lt_of_le hp1 HF4.out.be.size)
    obtain ⟨W6, hW6⟩ : ∃ W6, w5.setCell ⟨w.heap.size + 1, 0, none⟩ (.int .i64 0) = W6 := ⟨_, rfl⟩
    rw [hW6] at hF6 p1 p2 hr6
    have HB6 := Aside0.mk hB6
    have HF6 := Aside0.mk hF6
    have HR6 := Aside0.mk hr6
    clear hr5 hb5 l5 C5 hp1 hB6 hF6 hr6
    go_wp2_with (fail)
    refine (crash_x HF6.out HCm.out.sm HCm.out.ok (fun w' h1 _ => HR2.out _ w' HB6.out h1) hc2).mono ?_
    rintro e w7 ⟨hk7, ⟨rfl, hf7⟩ | ⟨rfl, S2, hf7, hcr7⟩⟩
    case inl =>
      have HF7 := Aside0.mk hf7
      have HK7 := Aside0.mk hk7
      clear hf7 hk7 p0 pf p1 p2
      go_wp2_with (fail)
      refine (crash_plain HF7.out HCm.out.sm HCm.out.ok).mono ?_
      rintro e w8 ⟨hk8, rfl, S2, hf8, hcr7⟩
      have HF8 := Aside0.mk hf8
      have HC8 := Aside0.mk (hcr7.calm HF7.out HCm.out.sm HCm.out.ok hf8)
      have HS8 := Aside0.mk (hcr7.still HCm.out)
      have HR8 := Aside0.mk (files_kept hk8 (files_kept HK7.out HR6.out))
      clear hf8 hk8 hcr7 HF7 HK7
      go_wp2_with (fail)
      refine (files_any _ g S2 _ w8 HF8.out HC8.out.sm HC8.out.ok).mono ?_
      rintro e w9 ⟨v9, rfl, hr9, hb9⟩
      rw [HS8.out] at hr9
      obtain ⟨A9, c9, rfl, l9, C9⟩ := Kd.R_reads hr9
      obtain ⟨_, l8, C8⟩ := Kd.R_reads' (Kd.R_below HR8.out hb9)
      have HB9 := Aside0.mk (HB6.out.trans ((HF8.out.be.trans (hb9.mono HF8.out.be.size)).mono HB6.out.size))
      have HCa := Aside0.mk C9
      have HCb := Aside0.mk C8
      have hlen : (files S1).length < 9223372036854775807 := by
        have := HCm.out.sm.se
        rw [files_len]
        omega
      have HSf := Aside0.mk (sameF_f (files S1) 1048576 hlen (by decide) (files_le HF4.out HCm.out.ok))
      clear hr9 hb9 C9 C8 hlen
      go_wp2_with (fail)
      refine (PB.atriumlaw01_SameFiles.calls _ A9 c9 (files S1) A5 c5 (files S1) true w9 HCa.out l9 HCb.out l8 HSf.out).mono ?_
      rintro e w10 ⟨rfl, hb10⟩
      have HB10 := Aside0.mk (HB9.out.trans (hb10.mono HB9.out.size))
      clear hb10
      go_wp2
      go_ret
      exact ⟨rfl, HB10.out⟩
    case inr =>
      have HF8 := Aside0.mk hf7
      have HC8 := Aside0.mk (hcr7.calm HF6.out HCm.out.sm HCm.out.ok hf7)
      have HS8 := Aside0.mk (hcr7.still HCm.out)
      have HR8 := Aside0.mk (files_kept hk7 HR6.out)
      clear hf7 hk7 hcr7 p0 pf p1 p2
      generalize w7 = w8 at *
      go_wp2_with (fail)
      refine (files_any _ g S2 _ w8 HF8.out HC8.out.sm HC8.out.ok).mono ?_
      rintro e w9 ⟨v9, rfl, hr9, hb9⟩
      rw [HS8.out] at hr9
      obtain ⟨A9, c9, rfl, l9, C9⟩ := Kd.R_reads hr9
      obtain ⟨_, l8, C8⟩ := Kd.R_reads' (Kd.R_below HR8.out hb9)
      have HB9 := Aside0.mk (HB6.out.trans ((HF8.out.be.trans (hb9.mono HF8.out.be.size)).mono HB6.out.size))
      have HCa := Aside0.mk C9
      have HCb := Aside0.mk C8
      have hlen : (files S1).length < 9223372036854775807 := by
        have := HCm.out.sm.se
        rw [files_len]
        omega
      have HSf := Aside0.mk (sameF_f (files S1) 1048576 hlen (by decide) (files_le HF4.out HCm.out.ok))
      clear hr9 hb9 C9 C8 hlen
      go_wp2_with (fail)
      refine (PB.atriumlaw01_SameFiles.calls _ A9 c9 (files S1) A5 c5 (files S1) true w9 HCa.out l9 HCb.out l8 HSf.out).mono ?_
      rintro e w10 ⟨rfl, hb10⟩
      have HB10 := Aside0.mk (HB9.out.trans (hb10.mono HB9.out.size))
      clear hb10
      go_wp2
      go_ret
      exact ⟨rfl, HB10.out⟩
theorem twice_walk (cap : Int) (A : Option Addr) (c : Nat) (xs : List SOp) (cs : Array Value) (y : SCrash) (cs' : Array Value) (y' : SCrash) (W : World) (h0 : (Lit.int .i64 cap).wf = true) (hC : Kd.C kOp W A xs.length xs) (hc : xs.length ≤ c) (hx : xs.length * 136 ≤ 140737488351232 ∧ ∀ e ∈ xs, okO e) (hK : kCrash.K W y cs.toList) (hy : okC y) (hK' : kCrash.K W y' cs'.toList) (hy' : okC y') :
    Calls Try.prog 5 #[.int .i64 cap, .slice A xs.length c, .agg cs, .agg cs'] W fun e w' => e = .returned (.bool true) ∧ Below W.heap.size W w' := by
  obtain ⟨A1, c1, rfl, h1, h2⟩ := crash_open hK
  obtain ⟨A2, c2, rfl, h3, h4⟩ := crash_open hK'
  exact twice_any cap A c xs y.f0 A1 c1 y.f1 y'.f0 A2 c2 y'.f1 W hC hc (by omega) (opOk_of hx.2) h1 h2 h3 h4
end Go.Proofs.Ytamhecmopnekjaa.Vf
