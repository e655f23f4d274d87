/- VfsSynced: its walk. -/
import Derived.Test.YtamhecmopnekjaaVfCl
import Derived.Deep.RegionLaw
import Derived.Deep.Cut
namespace Go.Proofs.Ytamhecmopnekjaa.Vf
open Go Go.RowKit Go.Maps Go.Proofs.Ytamhecmopnekjaa Go.Proofs.YtamhecmopnekjaaW.PrintWords
set_option linter.unusedVariables false
set_option linter.unusedSimpArgs false

/-- Fail(nil). -/
theorem fail_c {w0 w : World} {g N : Nat} {cap : Int} {S : St} (h : Up w0 g cap N S w) :
    Calls Try.prog 21 #[.pointer (some ⟨g, 0, none⟩), .slice none 0 0] w fun e w' => e = .returned (.int .i64 0) ∧ KeptT w w' ∧ ∃ S', Cln w0 g cap N S' w' := by
  refine (fail_any w0 g S none 0 [] w h.fs ⟨rfl, by decide, fun h => absurd h (Nat.lt_irrefl 0)⟩ (Nat.le_refl _) (fun x hx => by cases hx)).mono ?_
  rintro e w' ⟨hk, ⟨hne, _⟩ | ⟨he, fv, b, hf⟩⟩
  · exact absurd rfl hne
  · exact ⟨he, hk, _, ⟨hf, inv_fail S fv [] b h.iv, ⟨h.sm.se, h.sm.la, h.sm.le⟩, h.cap⟩, rfl⟩
/-- What appends and syncs leave of a directory that was synced. -/
structure Stay (S0 S : St) : Prop where
  se : S.seen = S0.seen
  la : S.lasts = S0.lasts
  pe : S.pend = S0.pend
  sy : ∀ b, (S0.fl b).synced ≤ (S.fl b).synced
theorem Stay.refl (S : St) : Stay S S := ⟨rfl, rfl, rfl, fun _ => Nat.le_refl _⟩
theorem Stay.trans {S0 S1 S2 : St} (h : Stay S0 S1) (h' : Stay S1 S2) : Stay S0 S2 := ⟨h'.se.trans h.se, h'.la.trans h.la, h'.pe.trans h.pe, fun b => Nat.le_trans (h.sy b) (h'.sy b)⟩
theorem upd_synced {fl : Nat → VFile} {f : Nat} {x : VFile} (h : (fl f).synced ≤ x.synced) (b : Nat) : (fl b).synced ≤ (updF fl f x b).synced := by
  unfold updF
  split
  · rename_i e; rw [e]; exact h
  · exact Nat.le_refl _
section
variable {w0 w : World} {g N : Nat} {cap : Int} {S : St}
theorem append_s {s : ByteArray} {A : Option Addr} {c : Nat} {M : List UInt8} (h : Cln w0 g cap N S w) (hs : s.size ≤ 9223372036854775807) (HR : ReadsInt w .u8 A M.length (nb M)) (hnc : M.length ≤ c) (hl : M.length ≤ 140737488351232) :
    Calls Try.prog 12 #[.pointer (some ⟨g, 0, none⟩), .string s, .slice A M.length c] w fun e w' => (∃ v, e = .returned (.int .i64 v)) ∧ KeptT w w' ∧ ∃ S', Cln w0 g cap N S' w' ∧ Stay S S' := by
  refine (append_any w0 g S N s A c M w h.up.fs h.up.sm h.up.iv.ok hs HR hnc hl).mono ?_
  rintro e w' (⟨_, he, hf, hk⟩ | ⟨hz, f, hl, ho⟩)
  · exact ⟨⟨_, he⟩, hk, S, ⟨⟨hf, h.up.iv, h.up.sm, h.up.cap⟩, h.fl⟩, Stay.refl S⟩
  · obtain ⟨he, hk, o', nth', hf⟩ := ho.clean h.fl
    exact ⟨⟨_, he⟩, hk, _, ⟨⟨hf, inv_append S o' nth' s f M h.up.iv (h.up.fs.se.tidy keyed9) h.up.fs.sn (strKeys_of h.up.fs.se) hl hz, ⟨h.up.sm.se, h.up.sm.la, h.up.sm.le⟩, h.up.cap⟩, h.fl⟩, rfl, rfl, rfl, upd_synced (Nat.le_refl _)⟩
theorem sync_s {s : ByteArray} (h : Cln w0 g cap N S w) (hs : s.size ≤ 9223372036854775807) :
    Calls Try.prog 13 #[.pointer (some ⟨g, 0, none⟩), .string s] w fun e w' => (∃ v, e = .returned (.int .i64 v)) ∧ KeptT w w' ∧ ∃ S', Cln w0 g cap N S' w' ∧ Stay S S' := by
  refine (sync_any w0 g S s w h.up.fs h.up.iv.ok hs).mono ?_
  rintro e w' (⟨_, he, hf, hk⟩ | ⟨_, f, hl, ho⟩)
  · exact ⟨⟨_, he⟩, hk, S, ⟨⟨hf, h.up.iv, h.up.sm, h.up.cap⟩, h.fl⟩, Stay.refl S⟩
  · obtain ⟨he, hk, o', nth', hf⟩ := ho.clean h.fl
    exact ⟨⟨_, he⟩, hk, _, ⟨⟨hf, inv_sync S o' nth' s f h.up.iv (h.up.fs.se.tidy keyed9) h.up.fs.sn (strKeys_of h.up.fs.se) hl, ⟨h.up.sm.se, h.up.sm.la, h.up.sm.le⟩, h.up.cap⟩, h.fl⟩, rfl, rfl, rfl, upd_synced (h.up.iv.ok.fs f (look_mem h.up.fs.sn hl).1).2⟩
end
/-- A file of the row, by its number. -/
theorem file_at (S : St) {j : Nat} (hj : j < (names S.seen).length) : PB.rd_T37 (files S) (j : Int) = ⟨(names S.seen).getD j ByteArray.empty, nb (S.fl (blk S.seen j)).bytes, ((S.fl (blk S.seen j)).synced : Int)⟩ := by
  unfold PB.rd_T37 files
  rw [Int.toNat_natCast, List.getD_eq_getElem?_getD, List.getElem?_map, List.getElem?_eq_getElem hj]
  show fileX S (names S.seen)[j] = _
  unfold fileX blk
  rw [List.getD_eq_getElem?_getD, List.getElem?_eq_getElem hj]
  rfl
/-- What the law asks of each file, behind any crash. -/
theorem synced_pure {w0 w w' : World} {g N : Nat} {cap : Int} {S2 S6 S8 : St} (hu : Cln w0 g cap N S6 w) (hst : Stay S2 S6) (hla : S2.lasts = S2.seen) (hpe : S2.pend = []) (hc : Crashed S6 S8) (hf : FsB w0 g S8 w') :
    S8.seen = S6.seen ∧ ∀ j, j < (names S6.seen).length → (S2.fl (blk S6.seen j)).synced ≤ (nb (S8.fl (blk S6.seen j)).bytes).length ∧ (S6.fl (blk S6.seen j)).synced ≤ (nb (S8.fl (blk S6.seen j)).bytes).length ∧ (nb (S8.fl (blk S6.seen j)).bytes).length ≤ (nb (S6.fl (blk S6.seen j)).bytes).length ∧ nb (S8.fl (blk S6.seen j)).bytes = (nb (S6.fl (blk S6.seen j)).bytes).take (nb (S8.fl (blk S6.seen j)).bytes).length ∧ (S8.fl (blk S6.seen j)).synced = (nb (S8.fl (blk S6.seen j)).bytes).length := by
  obtain ⟨dir, ks, bs, bn, hbad, rfl⟩ := hc
  obtain ⟨h1, h2, h3⟩ := bad_false hbad
  have hD : playD (S6.pend.take dir.toNat) S6.lasts = S6.seen := by
    rw [hst.pe, hpe, List.take_nil, hst.la, hla, hst.se]
    rfl
  refine ⟨hD, fun j hj => ?_⟩
  have hbm : ∀ j, j < (names (playD (S6.pend.take dir.toNat) S6.lasts)).length → blk (playD (S6.pend.take dir.toNat) S6.lasts) j ∈ S6.fb := fun j hj => blk_mem hf.se hf.sn j hj
  have hcc := cut_crash (playD (S6.pend.take dir.toNat) S6.lasts) ks S6.fl S6.fb hu.up.iv.ok.fs h3 hbm _ (Nat.le_refl _)
  rw [hD] at hcc hbm
  have hsy := hcc.2 j hj
  obtain ⟨c1, c2, c3⟩ := hcc.1 _ (hbm j hj)
  have e : (crashS S6 dir.toNat ks bs bn).fl (blk S6.seen j) = crashFl S6.seen ks S6.fl (names S6.seen).length (blk S6.seen j) := by
    show crashFl (playD (S6.pend.take dir.toNat) S6.lasts) ks S6.fl (names (playD (S6.pend.take dir.toNat) S6.lasts)).length (blk S6.seen j) = _
    rw [hD]
  rw [e]
  have h6 := hst.sy (blk S6.seen j)
  simp only [nb_len]
  refine ⟨by omega, by omega, c3, ?_, hsy⟩
  unfold nb
  rw [← List.map_take, ← c1]
set_option maxHeartbeats 8000000 in
set_option maxRecDepth 100000 in
theorem synced_any (cap : Int) (A : Option Addr) (c : Nat) (xs : List SOp) (Am : Option Addr) (cm : Nat) (ms : List SOp) (d1 : Int) (A1 : Option Addr) (c1 : Nat) (ks1 : List Int) (w : World) (hC : Kd.C kOp w A xs.length xs) (hc : xs.length ≤ c) (hl : xs.length ≤ 1500000000000) (hok : ∀ x ∈ xs, OpOk x) (hCm : Kd.C kOp w Am ms.length ms) (hcm : ms.length ≤ cm) (hlm : ms.length ≤ 1500000000000) (hokm : ∀ x ∈ ms, OpOk x)
    (hC1 : Kd.C (Kd.int .i64) w A1 ks1.length ks1) (hc1 : ks1.length ≤ c1) :
    Calls Try.prog 4 #[.int .i64 cap, .slice A xs.length c, .slice Am ms.length cm, .agg #[.int .i64 d1, .slice A1 ks1.length c1]] w fun e w' => e = .returned (.bool true) ∧ Below w.heap.size w w' := by
  have huc := Try.underlying25
  have huF := Try.underlying37
  have huo := Try.underlying50
  have HC := Aside0.mk hC
  have Hok := Aside0.mk hok
  have HCm := Aside0.mk hCm
  have Hokm := Aside0.mk hokm
  have HC1 := Aside0.mk hC1
  clear hC hok hCm hokm hC1
  have hb0 : Below w.heap.size w (w.alloc (.cells #[.int .i64 d1, .slice A1 ks1.length c1] 25)) := (Below.refl _ _).alloc (Nat.le_refl _) _
  have HX0 := Aside0.mk (heap_alloc_new w (.cells #[.int .i64 d1, .slice A1 ks1.length c1] 25))
  have HB0 := Aside0.mk hb0
  clear hb0
  go_enter Try.func4, Try.ntmps4
  go_wp2_with (go_at_call 9; refine (lives_any _).mono ?_; rintro e w1 ⟨rfl, hb⟩; have HX1 := Aside0.mk ((hb.block _ (blk_lt HX0.out)).trans HX0.out); have HB1 := Aside0.mk (HB0.out.trans (hb.mono HB0.out.size)); clear hb)
  refine (plays_any cap A c xs w1 (Kd.C_below HC.out HB1.out) hc hl Hok.out).mono ?_
  rintro e w2 ⟨hb2, rfl | ⟨g, S0, rfl, hc0, hc3, hu⟩⟩
  · have HB2 := Aside0.mk (HB1.out.trans (hb2.mono HB1.out.size))
    clear hb2
    go_wp2
    go_ret
    exact ⟨rfl, HB2.out⟩
  have HU0 := Aside0.mk hu
  have HX2 := Aside0.mk ((hb2.block _ (blk_lt HX1.out)).trans HX1.out)
  clear hb2 hu
  go_wp2_with (fail)
  refine (fail_c HU0.out).mono ?_
  rintro e w3 ⟨rfl, hk3, S1, hcl⟩
  have HU1 := Aside0.mk hcl
  have HX3 := Aside0.mk (box_kept hk3 HX2.out)
  clear hcl hk3 HU0
  go_wp2_with (fail)
  have hM : xs.length + 1 ≤ 2000000000000 := by omega
  refine (dir_c HU1.out hM).mono ?_
  rintro e w4 ⟨rfl, hk4, S2, hu2, a2, b2, c2, d2, f2⟩
  have HU2 := Aside0.mk hu2
  have HX4 := Aside0.mk (box_kept hk4 HX3.out)
  have HL2 := Aside0.mk (show S2.lasts = S2.seen ∧ S2.pend = [] from ⟨by rw [b2, a2], c2⟩)
  clear hk4 hu2 a2 b2 c2 d2 f2 HU1
  generalize hN : xs.length + 1 = N at *
  go_wp2_with (fail)
  refine (files_any w1 g S2 _ w4 HU2.out.up.fs HU2.out.up.sm HU2.out.up.iv.ok).mono ?_
  rintro e w5 ⟨v5, rfl, hr5, hb5⟩
  obtain ⟨A5, c5, rfl, l5, C5⟩ := Kd.R_reads hr5
  have HU5 := Aside0.mk (HU2.out.below hb5)
  have HR5 := Aside0.mk hr5
  have HX5 := Aside0.mk ((hb5.block _ (blk_lt HX4.out)).trans HX4.out)
  have hlen : (files S2).length ≤ 2000000000000 := by
    have h1 := HU2.out.up.sm.se
    have h2 := HU2.out.up.sm.le
    rw [files_len]
    omega
  clear hr5 hb5 C5
  have HK5 := Aside0.mk (KeptT.refl w5)
  go_wp2
  go_loopw [12] (fun iv wr => ∃ (i : Nat) (S : St), i ≤ ms.length ∧ iv = .int .i64 i ∧ Aside0 (Cln w1 g cap N S wr ∧ Stay S2 S ∧ KeptT w5 wr)) (fun iv _ => ms.length - (intOf iv).toNat)
  case atStart => exact ⟨0, S2, Nat.zero_le _, rfl, ⟨HU5.out, Stay.refl _, KeptT.refl _⟩⟩
  case round =>
    clear HU5 HK5
    obtain ⟨i, S, hi, rfl, HU⟩ := hrel
    by_cases hlt : i < ms.length
    · have HBr := Aside0.mk (HB1.out.trans (HU.out.1.up.fs.be.mono HB1.out.size))
      obtain ⟨ad, A8, c8, A9, c9, A10, c10, rfl, z0, z1, z2, z3', z4, z5, z6, z7, z8, l5, C5, _, _, _, _⟩ := Ty.at_T50 HCm.out (i : Int) (by omega) (by omega)
      have hox : OpOk (Ty.rd_T50 ms (i : Int)) := by
        unfold Ty.rd_T50
        rw [Int.toNat_natCast, List.getD_eq_getElem?_getD, List.getElem?_eq_getElem hlt]
        exact Hokm.out _ (List.getElem_mem hlt)
      rw [Int.toNat_natCast] at z0 z1 z2 z3' z4 z5 z6 z7 z8
      generalize Ty.rd_T50 ms (i : Int) = x at *
      have hli : (i : Int) < (ms.length : Int) := by omega
      have Hz0 := Aside0.mk z0
      have Hz1 := Aside0.mk z1
      have Hz5 := Aside0.mk z5
      clear z2 z3' z4 z6 z7 z8
      have Hce := Aside0.mk (show ∀ {wx : World} {a : Addr} {v : Value}, Below w.heap.size w wx → w.cell? a = some v → wx.cell? a = some v from fun {wx a v} hb h => (hb.cell (World.block_lt_of_cell? w _ h)).trans h)
      replace z0 := Hce.out HBr.out z0
      replace z1 := Hce.out HBr.out z1
      replace z5 := Hce.out HBr.out z5
      have Hst := Aside0.mk (show ∀ W, Below wr.heap.size wr W → Calls Try.prog 12 #[.pointer (some ⟨g, 0, none⟩), .string x.f1, .slice A8 x.f5.length c8] W fun e w' => (∃ v, e = .returned (.int .i64 v)) ∧ ∃ S', Cln w1 g cap N S' w' ∧ Stay S2 S' ∧ KeptT w5 w' from fun W hW => by
        have h := append_s (s := x.f1) (c := c8) (M := toB x.f5) (HU.out.1.below hW) (by have := hox.n1; omega) (reads_toB (Kd.C_below (Kd.C_below C5 HBr.out) hW) hox.bw) (by rw [toB_len]; exact l5) (by rw [toB_len]; exact hox.bl)
        rw [toB_len] at h
        refine h.mono ?_
        rintro e w' ⟨hv, hk, S', hu, hs⟩
        exact ⟨hv, S', hu, HU.out.2.1.trans hs, (HU.out.2.2.trans (KeptT.of_below hW)).trans hk⟩)
      have Hsy := Aside0.mk (show ∀ W, Below wr.heap.size wr W → Calls Try.prog 13 #[.pointer (some ⟨g, 0, none⟩), .string x.f1] W fun e w' => (∃ v, e = .returned (.int .i64 v)) ∧ ∃ S', Cln w1 g cap N S' w' ∧ Stay S2 S' ∧ KeptT w5 w' from fun W hW => by
        refine (sync_s (s := x.f1) (HU.out.1.below hW) (by have := hox.n1; omega)).mono ?_
        rintro e w' ⟨hv, hk, S', hu, hs⟩
        exact ⟨hv, S', hu, HU.out.2.1.trans hs, (HU.out.2.2.trans (KeptT.of_below hW)).trans hk⟩)
      obtain ⟨kd, hkd⟩ : ∃ kd, x.f0 = kd := ⟨_, rfl⟩
      rw [hkd] at z0 Hz0
      clear hkd hox l5 C5
      rcases (show kd = 2 ∨ kd = 3 ∨ (kd ≠ 2 ∧ kd ≠ 3) by omega) with h | h | ⟨h2, h3⟩
      · subst h
        have Hd := Aside0.mk (Hst.out wr.drew (below_drew1 (Below.refl _ _)))
        go_wp2
        go_region_held3 (fun w' => w'.cell? ⟨(ad.add (i * 9)).block, (ad.add (i * 9)).off + 1, none⟩ = some (.string x.f1) ∧ w'.cell? ⟨(ad.add (i * 9)).block, (ad.add (i * 9)).off + 5, none⟩ = some (.slice A8 x.f5.length c8)) (first | exact ⟨z1, z5⟩ | exact ⟨q1, q5⟩ | go_keep) ((go_at_call 12; refine Hd.out.mono ?_; rintro e w7 ⟨⟨v, rfl⟩, S', hu⟩; have hb7 := HB1.out.trans (hu.1.up.fs.be.mono HB1.out.size); have q0 := Hce.out hb7 Hz0.out; have q1 := Hce.out hb7 Hz1.out; have q5 := Hce.out hb7 Hz5.out; have HU7 := Aside0.mk hu; clear hu hb7))
        clear z0 z1 z5
        go_wp2
        go_roundw
        case rel => exact ⟨i + 1, S', by omega, by go_num, HU7⟩
        case measure => simp [intOf]; omega
      · subst h
        go_wp2_with (go_at_call 13; refine (Hsy.out _ (Below.refl _ _)).mono ?_; rintro e w7 ⟨⟨v, rfl⟩, S', hu⟩; have HU7 := Aside0.mk hu; clear hu)
        go_roundw
        case rel => exact ⟨i + 1, S', by omega, by go_num, HU7⟩
        case measure => simp [intOf]; omega
      · have e2 : (kd == 2) = false := beq_eq_false_iff_ne.2 h2
        have e3 : (kd == 3) = false := beq_eq_false_iff_ne.2 h3
        clear h2 h3
        go_wp2
        go_roundw
        case rel => exact ⟨i + 1, S, by omega, by go_num, HU⟩
        case measure => simp [intOf]; omega
    · obtain rfl : i = ms.length := by omega
      have HU6 := Aside0.mk HU.out.1
      have HS6 := Aside0.mk HU.out.2.1
      have HR6 := Aside0.mk (files_kept HU.out.2.2 HR5.out)
      have HX6 := Aside0.mk (box_kept HU.out.2.2 HX5.out)
      clear HU HR5 HX5
      generalize hwr : wr = w6 at *
      clear hwr wr
      go_wp2_with (fail)
      refine (files_any w1 g S _ w6 HU6.out.up.fs HU6.out.up.sm HU6.out.up.iv.ok).mono ?_
      rintro e w7 ⟨v7, rfl, hr7, hb7⟩
      obtain ⟨A7, c7, rfl, l7, C7⟩ := Kd.R_reads hr7
      have HU7 := Aside0.mk (HU6.out.below hb7)
      have HR7 := Aside0.mk hr7
      have HRa := Aside0.mk (Kd.R_below HR6.out hb7)
      have hx7 := (hb7.block _ (blk_lt HX6.out)).trans HX6.out
      have y10 : w7.cell? ⟨w.heap.size, 0, none⟩ = some (.int .i64 d1) := (blk_cell hx7 0).trans rfl
      have y11 : w7.cell? ⟨w.heap.size, 1, none⟩ = some (.slice A1 ks1.length c1) := (blk_cell hx7 1).trans rfl
      clear hr7 hb7 C7 hx7 HR6 HX6 HU6
      go_wp2_with (fail)
      refine (crash_x HU7.out.up.fs HU7.out.up.sm HU7.out.up.iv.ok (fun w' h1 _ => Kd.reads_of_C (d := (0 : Int)) (Kd.C_below HC1.out (HB1.out.trans (h1.mono HB1.out.size)))) hc1).mono ?_
      rintro e w13 ⟨hk13, hcr⟩
      clear y10 y11
      rcases hcr with ⟨rfl, hf13⟩ | ⟨rfl, S13, hf13, hcr⟩
      case' inl =>
        have HF13 := Aside0.mk hf13
        have HK13 := Aside0.mk hk13
        clear hk13 hf13
        go_wp2_with (fail)
        refine (crash_plain HF13.out HU7.out.up.sm HU7.out.up.iv.ok).mono ?_
        rintro e w14 ⟨hk14, rfl, S14, hf14, hcr⟩
        have HK14 := Aside0.mk (HK13.out.trans hk14)
        clear hk14 HK13 HF13
      case' inr =>
        generalize w13 = w14 at *
        generalize S13 = S14 at *
        have hf14 := hf13
        have HK14 := Aside0.mk hk13
        clear hf13 hk13
      all_goals
        have HF14 := Aside0.mk hf14
        have HCm' := Aside0.mk (hcr.calm HU7.out.up.fs HU7.out.up.sm HU7.out.up.iv.ok hf14)
        have HPu := Aside0.mk (synced_pure HU7.out HS6.out HL2.out.1 HL2.out.2 hcr hf14)
        have HRa2 := Aside0.mk (files_kept HK14.out HRa.out)
        have HRb2 := Aside0.mk (files_kept HK14.out HR7.out)
        clear hf14 hcr HK14
        go_wp2_with (fail)
        refine (files_any w1 g S14 _ w14 HF14.out HCm'.out.sm HCm'.out.ok).mono ?_
        rintro e w15 ⟨v15, rfl, hr15, hb15⟩
        obtain ⟨A15, c15, rfl, l15, C15⟩ := Kd.R_reads hr15
        have HCk := Aside0.mk (Kd.R_reads' (Kd.R_below HRa2.out hb15)).2.2
        have HCn := Aside0.mk (Kd.R_reads' (Kd.R_below HRb2.out hb15)).2.2
        have HCb := Aside0.mk C15
        have HB15 := Aside0.mk (HB1.out.trans ((HF14.out.be.trans (hb15.mono HF14.out.be.size)).mono HB1.out.size))
        obtain ⟨n, hn⟩ : ∃ n, (names S.seen).length = n := ⟨_, rfl⟩
        have e2 : (files S2).length = n := by rw [← hn, ← HS6.out.se.symm, files_len, names_len]
        have e6 : (files S).length = n := by rw [← hn, files_len, names_len]
        have e8 : (files S14).length = n := by rw [← hn, ← HPu.out.1, files_len, names_len]
        have hn9 : n ≤ 2000000000000 := by rw [← e2]; exact hlen
        have HN := Aside0.mk hn
        rw [e2] at HCk ⊢
        rw [e6] at HCn ⊢
        rw [e8] at HCb ⊢
        clear hr15 hb15 C15 HRa2 HRb2 hn e2 e6 e8
        have HP0 := Aside0.mk (Below.refl w15.heap.size w15)
        go_wp2
        go_loopw [15] (fun iv wr => ∃ j : Nat, j ≤ n ∧ iv = .int .i64 j ∧ Aside0 (Below w15.heap.size w15 wr)) (fun iv _ => n - (intOf iv).toNat)
        case atStart => exact ⟨0, Nat.zero_le _, rfl, HP0⟩
        case round =>
          clear HP0
          obtain ⟨j, hj, rfl, HP⟩ := hrel
          by_cases hlt : j < n
          · obtain ⟨ad, A20, c20, rfl, z0, z1, z2, l20, C20⟩ := PB.at_T37 (Kd.C_below HCb.out HP.out) (j : Int) (by omega) (by omega)
            obtain ⟨ae, A21, c21, rfl, y0, y1, y2, l21, C21⟩ := PB.at_T37 (Kd.C_below HCk.out HP.out) (j : Int) (by omega) (by omega)
            obtain ⟨af, A22, c22, rfl, x0, x1, x2, l22, C22⟩ := PB.at_T37 (Kd.C_below HCn.out HP.out) (j : Int) (by omega) (by omega)
            have hjn : j < (names S.seen).length := by rw [HN.out]; exact hlt
            obtain ⟨p1, p2, p3, p4, p5⟩ := HPu.out.2 j hjn
            have g8 := file_at S14 (j := j) (by rw [HPu.out.1]; exact hjn)
            have g2 := file_at S2 (j := j) (by rw [← HS6.out.se]; exact hjn)
            have g6 := file_at S (j := j) hjn
            have hL6 : (nb (S.fl (blk S.seen j)).bytes).length ≤ 1048576 := by
              rw [nb_len]
              exact (HU7.out.up.iv.ok.fs _ (blk_mem HU7.out.up.fs.se HU7.out.up.fs.sn j hjn)).1
            rw [HPu.out.1] at g8
            rw [← HS6.out.se] at g2
            rw [Int.toNat_natCast] at z0 z1 z2 y0 y1 y2 x0 x1 x2
            rw [g8] at z0 z1 z2 l20 C20
            rw [g2] at y0 y1 y2 l21 C21
            rw [g6] at x0 x1 x2 l22 C22
            dsimp only at z0 z1 z2 l20 C20 y0 y1 y2 l21 C21 x0 x1 x2 l22 C22
            rw [p5] at z2
            clear g8 g2 g6 p5 hjn y1 x0 l21 C21
            generalize (names S.seen).getD j ByteArray.empty = nm at *
            generalize nb (S14.fl (blk S.seen j)).bytes = L8 at *
            generalize nb (S.fl (blk S.seen j)).bytes = L6 at *
            generalize (S2.fl (blk S.seen j)).synced = s2 at *
            generalize (S.fl (blk S.seen j)).synced = s6 at *
            have hli : (j : Int) < (n : Int) := by omega
            have d1 : decide ((L8.length : Int) < (s2 : Int)) = false := decide_eq_false (by omega)
            have d2 : decide ((L8.length : Int) < (s6 : Int)) = false := decide_eq_false (by omega)
            have d3 : decide ((L6.length : Int) < (L8.length : Int)) = false := decide_eq_false (by omega)
            have d4 : decide (L8.length < s2) = false := decide_eq_false (by omega)
            have d5 : decide (L8.length < s6) = false := decide_eq_false (by omega)
            have d6 : decide (L6.length < L8.length) = false := decide_eq_false (by omega)
            obtain ⟨i0, hi0, hzz⟩ := Option.map_eq_some_iff.1 infoU8
            simp only [Prod.mk.injEq] at hzz
            have hm6 := C22.2.1
            have hsl : ∀ W : World, (Instr.slice 22 (.slice A22 L6.length c22) none (some (.int .i64 (L8.length : Int))) none).run Try.prog W = .ok (.slice A22 L8.length c22) W := by
              intro W
              have h := (print_take_int (k := .u8) (P := Try.prog) 22 5 Try.underlying22 hi0 hzz.2.1 A22 c22 L6 (L8.length : Int) (by omega) (by omega) l22).1 W
              rw [Int.toNat_natCast, ← p4] at h
              exact h
            have hC22 : (Kd.int .u8).C wr A22 L8.length L8 := by
              have h := Kd.C_take C22 (m := L8.length) p3
              rw [← p4] at h
              exact h
            obtain ⟨r, hr, hrt⟩ := sameB_f L8 L8 (by omega) (L8.length + 1) (Nat.lt_succ_self _)
            rw [hrt rfl] at hr
            have HSb := Aside0.mk (fun (wx : World) (hbx : Below wr.heap.size wr wx) => PB.atriumlaw01_sameBytes.calls _ A20 c20 L8 A22 c22 L8 true wx (Kd.C_below C20 hbx) l20 (Kd.C_below hC22 hbx) (by omega) hr)
            have HSd := Aside0.mk (HSb.out wr.drew (below_drew1 (Below.refl _ _)))
            have Hbb := Aside0.mk (show ∀ wx, Below wr.drew.heap.size wr.drew wx → Below wr.heap.size wr wx from fun wx hb => (below_drew1 (Below.refl wr.heap.size wr)).trans hb)
            have Hz0 := Aside0.mk z0
            have Hz1 := Aside0.mk z1
            have Hz2 := Aside0.mk z2
            have Hy0 := Aside0.mk y0
            have Hy2 := Aside0.mk y2
            have Hx1 := Aside0.mk x1
            have Hx2 := Aside0.mk x2
            have Hce := Aside0.mk (show ∀ {wx : World} {a : Addr} {v : Value}, Below wr.heap.size wr wx → wr.cell? a = some v → wx.cell? a = some v from fun {wx a v} hb h => (hb.cell (World.block_lt_of_cell? wr _ h)).trans h)
            clear hL6 hr hrt p1 p2 p3 p4 C20 C22 hC22 l20 l22 hi0 hzz hm6
            go_wp2
            go_region_held3 (fun w' => w'.cell? (ad.add (j * 3)) = some (.string nm) ∧ w'.cell? ⟨(ad.add (j * 3)).block, (ad.add (j * 3)).off + 1, none⟩ = some (.slice A20 L8.length c20) ∧ w'.cell? ⟨(ad.add (j * 3)).block, (ad.add (j * 3)).off + 2, none⟩ = some (.int .i64 (L8.length : Int)) ∧ w'.cell? (ae.add (j * 3)) = some (.string nm) ∧ w'.cell? ⟨(ae.add (j * 3)).block, (ae.add (j * 3)).off + 2, none⟩ = some (.int .i64 (s2 : Int)) ∧ w'.cell? ⟨(af.add (j * 3)).block, (af.add (j * 3)).off + 1, none⟩ = some (.slice A22 L6.length c22) ∧ w'.cell? ⟨(af.add (j * 3)).block, (af.add (j * 3)).off + 2, none⟩ = some (.int .i64 (s6 : Int))) (first | exact ⟨z0, z1, z2, y0, y2, x1, x2⟩ | exact ⟨q0, q1, q2, q3, q4, q5, q6⟩ | go_keep) ((go_at_call 19; refine HSd.out.mono ?_; rintro e w7 ⟨rfl, hb⟩; have hbb := Hbb.out _ hb.below; have q0 := Hce.out hbb Hz0.out; have q1 := Hce.out hbb Hz1.out; have q2 := Hce.out hbb Hz2.out; have q3 := Hce.out hbb Hy0.out; have q4 := Hce.out hbb Hy2.out; have q5 := Hce.out hbb Hx1.out; have q6 := Hce.out hbb Hx2.out; have HP7 := Aside0.mk (HP.out.trans (hbb.mono HP.out.size)); clear hb hbb))
            go_wp2
            go_roundw
            case rel => exact ⟨j + 1, by omega, by go_num, HP7⟩
            case measure => simp [intOf]; omega
          · obtain rfl : j = n := by omega
            have HZ := Aside0.mk (HB15.out.trans (HP.out.mono HB15.out.size))
            go_wp2
            go_ret
            exact ⟨rfl, HZ.out⟩
theorem synced_walk (cap : Int) (A : Option Addr) (c : Nat) (xs : List SOp) (Am : Option Addr) (cm : Nat) (ms : List SOp) (cs : Array Value) (y : SCrash) (W : World) (h0 : (Lit.int .i64 cap).wf = true) (hC : Kd.C kOp W A xs.length xs) (hc : xs.length ≤ c) (hx : xs.length * 136 ≤ 140737488351232 ∧ ∀ e ∈ xs, okO e) (hCm : Kd.C kOp W Am ms.length ms) (hcm : ms.length ≤ cm) (hxm : ms.length * 136 ≤ 140737488351232 ∧ ∀ e ∈ ms, okO e) (hK : kCrash.K W y cs.toList) (hy : okC y) :
    Calls Try.prog 4 #[.int .i64 cap, .slice A xs.length c, .slice Am ms.length cm, .agg cs] W fun e w' => e = .returned (.bool true) ∧ Below W.heap.size W w' := by
  obtain ⟨A1, c1, rfl, h1, h2⟩ := crash_open hK
  exact synced_any cap A c xs Am cm ms y.f0 A1 c1 y.f1 W hC hc (by omega) (opOk_of hx.2) hCm hcm (by omega) (opOk_of hxm.2) h1 h2
end Go.Proofs.Ytamhecmopnekjaa.Vf
