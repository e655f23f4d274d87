/- VfsAll: its walk. -/
import Derived.Test.YtamhecmopnekjaaVfTw
import Derived.Deep.RegionLaw
import Derived.Deep.Cut
namespace Go.Proofs.Ytamhecmopnekjaa.Vf
open Go Go.RowKit Go.Maps Go.Proofs.Ytamhecmopnekjaa Go.Proofs.YtamhecmopnekjaaW.PrintWords
set_option linter.unusedVariables false
set_option linter.unusedSimpArgs false

theorem crashX_full (x : VFile) (h : x.synced ≤ x.bytes.length) : crashX x (moreX x (some (x.bytes.length : Int))) = ⟨x.bytes, x.bytes.length⟩ := by
  have hm : moreX x (some (x.bytes.length : Int)) = ((x.bytes.length - x.synced : Nat) : Int) := by
    show min (x.bytes.length : Int) ((x.bytes.length : Int) - (x.synced : Int)) = _
    omega
  rw [hm]
  unfold crashX
  rw [Int.toNat_natCast, show x.synced + (x.bytes.length - x.synced) = x.bytes.length by omega, List.take_length]
/-- A crash that keeps all keeps all. -/
theorem crash_full (D : Dt) (ks : List Int) (fl : Nat → VFile) (fb : List Nat) (hF : FOk fb fl) (hb : ∀ j, j < (names D).length → blk D j ∈ fb) (hk : ∀ j, j < (names D).length → ks[j]? = some ((fl (blk D j)).bytes.length : Int)) : ∀ n, n ≤ (names D).length → (∀ b, (crashFl D ks fl n b).bytes = (fl b).bytes) ∧ FOk fb (crashFl D ks fl n)
  | 0, _ => ⟨fun _ => rfl, hF⟩
  | n + 1, hn => by
    obtain ⟨h1, h2⟩ := crash_full D ks fl fb hF hb hk n (by omega)
    have hb1 := h2 _ (hb n (by omega))
    have hk1 := hk n (by omega)
    rw [← h1 (blk D n)] at hk1
    rw [crashFl_succ, hk1, crashX_full _ hb1.2]
    refine ⟨fun b => ?_, fok_upd h2 ⟨hb1.1, Nat.le_refl _⟩⟩
    unfold updF
    split
    · rename_i e; rw [← h1 b, e]
    · exact h1 b
def keeps (S : St) : List Int := (files S).map fun x => (x.f1.length : Int)
theorem keeps_at {S : St} {j : Nat} (hj : j < (names S.seen).length) : (keeps S)[j]? = some ((S.fl (blk S.seen j)).bytes.length : Int) := by
  unfold keeps files
  rw [List.map_map, List.getElem?_map, List.getElem?_eq_getElem hj]
  show some ((nb (S.fl ((look S.seen (names S.seen)[j]).getD 0)).bytes).length : Int) = _
  unfold nb blk
  rw [List.length_map, List.getD_eq_getElem?_getD, List.getElem?_eq_getElem hj]
  rfl
theorem bad_full (S : St) : crashBad S (S.pend.length : Int) (keeps S) = false := by
  unfold crashBad
  rw [decide_eq_false (by omega), decide_eq_false (by omega)]
  show List.any _ _ = false
  rw [List.any_eq_false]
  intro k hk
  obtain ⟨x, _, rfl⟩ := List.mem_map.1 hk
  simp
theorem all_files {w0 w : World} {g : Nat} {S : St} (h : FsB w0 g S w) (hi : Inv S) (bs bn : Nat) :
    (files (crashS S (S.pend.length : Int).toNat (keeps S) bs bn)).map (fun x => (x.f0, x.f1)) = (files S).map fun x => (x.f0, x.f1) := by
  have hD : playD (S.pend.take (S.pend.length : Int).toNat) S.lasts = S.seen := by rw [Int.toNat_natCast, List.take_length]; exact hi.pl.symm
  have hc := crash_full S.seen (keeps S) S.fl S.fb hi.ok.fs (fun j hj => blk_mem h.se h.sn j hj) (fun j hj => keeps_at hj) _ (Nat.le_refl _)
  unfold files crashS
  simp only [hD]
  rw [List.map_map, List.map_map]
  apply List.map_congr_left
  intro s _
  show (s, nb (crashFl S.seen (keeps S) S.fl (names S.seen).length ((look S.seen s).getD 0)).bytes) = (s, nb (S.fl ((look S.seen s).getD 0)).bytes)
  rw [hc.1]
theorem keeps_take {S : St} {j : Nat} (hlt : j < (files S).length) : (keeps S).take (j + 1) = (keeps S).take j ++ [((PB.rd_T37 (files S) (j : Int)).f1.length : Int)] := by
  have h : (keeps S)[j]? = some ((PB.rd_T37 (files S) (j : Int)).f1.length : Int) := by
    unfold keeps PB.rd_T37
    rw [List.getElem?_map, Int.toNat_natCast, List.getD_eq_getElem?_getD, List.getElem?_eq_getElem hlt]
    rfl
  rw [List.take_add_one, h]
  rfl
theorem keeps_len (S : St) : (keeps S).length = (files S).length := List.length_map _
theorem pair_at {xs ys : List SF} (h : xs.map (fun x => (x.f0, x.f1)) = ys.map (fun x => (x.f0, x.f1))) {j : Nat} (hj : j < ys.length) : (PB.rd_T37 xs (j : Int)).f0 = (PB.rd_T37 ys (j : Int)).f0 ∧ (PB.rd_T37 xs (j : Int)).f1 = (PB.rd_T37 ys (j : Int)).f1 := by
  have hl : xs.length = ys.length := by have := congrArg List.length h; rwa [List.length_map, List.length_map] at this
  have h1 := congrArg (fun l => l[j]?) h
  simp only [List.getElem?_map] at h1
  unfold PB.rd_T37
  rw [Int.toNat_natCast, List.getD_eq_getElem?_getD, List.getD_eq_getElem?_getD]
  rw [List.getElem?_eq_getElem hj, List.getElem?_eq_getElem (by omega : j < xs.length)] at h1 ⊢
  simp only [Option.map_some, Option.some.injEq, Prod.mk.injEq] at h1
  exact h1
theorem rd_mem {xs : List SF} {j : Nat} (hj : j < xs.length) : PB.rd_T37 xs (j : Int) ∈ xs := by
  unfold PB.rd_T37
  rw [Int.toNat_natCast, List.getD_eq_getElem?_getD, List.getElem?_eq_getElem hj]
  exact List.getElem_mem hj
abbrev kI : Kd Int := Kd.int .i64
abbrev TInt : Nat := 3
theorem infoInt : (Try.prog.info? TInt).map (fun i => (i.zero, i.size, i.bytes)) = some (some (.int .i64 0), kI.sz, 8) := by kernel_rfl
/-- What is kept so far. -/
structure PLk (w0 : World) (v : Value) (ks : List Int) (w : World) : Prop where
  ow : kI.R TInt w w0.heap.size (fun _ => True) v ks
  be : Below w0.heap.size w0 w
theorem PLk.below {w0 w w1 : World} {v : Value} {xs : List Int} (h : PLk w0 v xs w) (hb : Below w.heap.size w w1) : PLk w0 v xs w1 := ⟨Kd.R_below h.ow hb, h.be.trans (hb.mono h.be.size)⟩
set_option maxHeartbeats 8000000 in
set_option maxRecDepth 100000 in
theorem all_any (cap : Int) (A : Option Addr) (c : Nat) (xs : List SOp) (w : World) (hC : Kd.C kOp w A xs.length xs) (hc : xs.length ≤ c) (hl : xs.length ≤ 1500000000000) (hok : ∀ x ∈ xs, OpOk x) :
    Calls Try.prog 7 #[.int .i64 cap, .slice A xs.length c] w fun e w' => e = .returned (.bool true) ∧ Below w.heap.size w w' := by
  have huc := Try.underlying25
  have huF := Try.underlying37
  have HC := Aside0.mk hC
  have Hok := Aside0.mk hok
  clear hC hok
  go_enter Try.func7, Try.ntmps7
  go_wp2_with (go_at_call 9; refine (lives_any _).mono ?_; rintro e w1 ⟨rfl, hb⟩; have HB1 := Aside0.mk hb; clear hb)
  refine (plays_any cap A c xs w1 (Kd.C_below HC.out HB1.out) hc hl Hok.out).mono ?_
  rintro e w2 ⟨hb2, rfl | ⟨g, S, rfl, hc0, hc3, hu⟩⟩
  · have HB2 := Aside0.mk (HB1.out.trans (hb2.mono HB1.out.size))
    clear hb2
    go_wp2
    go_ret
    exact ⟨rfl, HB2.out⟩
  have HB2 := Aside0.mk (HB1.out.trans (hb2.mono HB1.out.size))
  have HU := Aside0.mk hu
  clear hb2 hu
  go_wp2_with (fail)
  refine (files_any w1 g S _ w2 HU.out.fs HU.out.sm HU.out.iv.ok).mono ?_
  rintro e w3 ⟨v3, rfl, hr3, hb3⟩
  obtain ⟨A3, c3, rfl, l3, C3⟩ := Kd.R_reads hr3
  have HF3 := Aside0.mk (HU.out.fs.below hb3)
  have HR3 := Aside0.mk hr3
  have HB3 := Aside0.mk hb3
  have HC3 := Aside0.mk C3
  have hlen : (files S).length ≤ 2000000000000 := by
    have := HU.out.sm.se
    have := HU.out.sm.le
    rw [files_len]
    omega
  clear hr3 hb3 C3
  go_wp2_with (fail)
  have HP0 := Aside0.mk (show PLk w3 (.slice none 0 0) ((keeps S).take 0) w3 from ⟨Kd.R_nil _ _ _ _ _, Below.refl _ _⟩)
  go_loopw [8, 9] (fun kv iv wr => ∃ j : Nat, j ≤ (files S).length ∧ iv = .int .i64 j ∧ Aside0 (PLk w3 kv ((keeps S).take j) wr)) (fun _ iv _ => (files S).length - (intOf iv).toNat)
  case atStart => exact ⟨0, Nat.zero_le _, rfl, HP0⟩
  case round =>
    clear HP0
    obtain ⟨j, hj, rfl, HP⟩ := hrel
    by_cases hlt : j < (files S).length
    · obtain ⟨ad, A5, c5, rfl, z0, z1, z2, l5, C5⟩ := PB.at_T37 (Kd.C_below HC3.out HP.out.be) (j : Int) (by omega) (by omega)
      have hli : (j : Int) < ((files S).length : Int) := by omega
      rw [Int.toNat_natCast] at z0 z1 z2
      have hkj := keeps_take hlt
      have Hkj := Aside0.mk hkj
      have Hktl := Aside0.mk (show (((keeps S).take j).length + 1) * 8 ≤ 140737488355328 by rw [List.length_take]; omega)
      clear hkj
      generalize PB.rd_T37 (files S) (j : Int) = x at *
      go_wp2_with ((with_reducible refine gate_builtin (b := .append) (xs := #[.tmp 31, .tmp 38]) rfl ?_); at_builtin; refine Kd.R_append kI (w0 := w3) w3.heap.size rfl (.tmp 31) (.tmp 38) 23 TInt _ 8 rfl Try.underlying23 infoInt rfl (by decide) (by decide) u8 ((keeps S).take j) (x.f1.length : Int) [.int .i64 (x.f1.length : Int)] (fun _ => True) (fun _ => False) rfl rfl rfl (fun _ hk => hk.elim) (fun _ _ => trivial) HP.out.ow HP.out.be HP.out.be.size Hktl.out ?_; intro v1 w4 ho hb _ _; have HP4 := Aside0.mk (show PLk w3 v1 ((keeps S).take (j + 1)) w4 from ⟨by rw [Hkj.out]; exact ho, hb⟩); clear ho hb)
      go_roundw
      case rel => exact ⟨j + 1, by omega, by go_num, HP4⟩
      case measure => simp [intOf]; omega

      trace_state
    · obtain rfl : j = (files S).length := by omega
      have HK := Aside0.mk (show PLk w3 u8 (keeps S) wr by have := HP.out; rwa [← keeps_len, List.take_length] at this)
      have HF4 := Aside0.mk (HF3.out.below HP.out.be)
      obtain ⟨A4, c4, hv4, l4, C4⟩ := Kd.R_reads HK.out.ow
      subst hv4
      have HR4 := Aside0.mk (Kd.R_below HR3.out HP.out.be)
      clear HP C4
      go_wp2_with (fail)
      refine (pending_any w1 g S wr HF4.out).mono ?_
      rintro e w5 ⟨rfl, hw⟩
      rw [hw]
      clear hw w5
      go_wp2_with (fail)
      refine (crash_any w1 g S _ _ A4 c4 (keeps S) wr HF4.out HU.out.sm HU.out.iv.ok (fun w' _ h2 => Kd.reads_of_C (d := (0 : Int)) (Kd.R_reads' (R_kept h2 HK.out.ow (by decide))).2.2) l4).mono ?_
      rintro e w5 ⟨hk5, ⟨hb5, _⟩ | ⟨hb5, rfl, bs, bn, hf5⟩⟩
      · rw [bad_full] at hb5; cases hb5
      have HCm := Aside0.mk (calm_crash HF4.out HU.out.sm HU.out.iv.ok hb5 hf5)
      have HAf := Aside0.mk (all_files HF4.out HU.out.iv bs bn)
      generalize crashS S (S.pend.length : Int).toNat (keeps S) bs bn = S1 at *
      have HF5 := Aside0.mk hf5
      have HR5 := Aside0.mk (files_kept hk5 HR4.out)
      clear hk5 hb5 hf5
      go_wp2_with (fail)
      refine (pending_any w1 g S1 w5 HF5.out).mono ?_
      rintro e w6 ⟨rfl, hw⟩
      rw [hw, HCm.out.pend]
      clear hw w6
      go_wp2_with (fail)
      refine (files_any w1 g S1 _ w5 HF5.out HCm.out.sm HCm.out.ok).mono ?_
      rintro e w6 ⟨v6, rfl, hr6, hb6⟩
      obtain ⟨A6, c6, rfl, l6, C6⟩ := Kd.R_reads hr6
      have HCa := Aside0.mk C6
      have HCb := Aside0.mk (Kd.R_reads' (Kd.R_below HR5.out hb6)).2.2
      have HB6 := Aside0.mk (HB1.out.trans ((HF5.out.be.trans (hb6.mono HF5.out.be.size)).mono HB1.out.size))
      have hle6 : (files S1).length = (files S).length := by have := congrArg List.length HAf.out; rwa [List.length_map, List.length_map] at this
      have hme := files_le HU.out.fs HU.out.iv.ok
      have HMe := Aside0.mk hme
      clear hr6 hb6 C6 hme
      rw [hle6]
      go_wp2_with (fail)
      have HY6 := Aside0.mk (Below.refl w6.heap.size w6)
      clear HF4 HK HR4 HF5 HR5
      generalize hwo : wr = wo at *
      clear hwo wr
      go_loopw [11] (fun iv wr => ∃ j : Nat, j ≤ (files S).length ∧ iv = .int .i64 j ∧ Aside0 (Below w6.heap.size w6 wr)) (fun iv _ => (files S).length - (intOf iv).toNat)
      case atStart => exact ⟨0, Nat.zero_le _, rfl, HY6⟩
      case round =>
        obtain ⟨j, hj, rfl, HP⟩ := hrel
        by_cases hlt : j < (files S).length
        · obtain ⟨ad, A7, c7, rfl, z0, z1, z2, l7, C7⟩ := PB.at_T37 (Kd.C_below HCa.out HP.out) (j : Int) (by omega) (by omega)
          obtain ⟨ae, A8, c8, rfl, y0, y1, y2, l8, C8⟩ := PB.at_T37 (Kd.C_below HCb.out HP.out) (j : Int) (by omega) (by omega)
          have hli : (j : Int) < ((files S).length : Int) := by omega
          rw [Int.toNat_natCast] at z0 z1 z2 y0 y1 y2
          obtain ⟨he0, he1⟩ := pair_at HAf.out (j := j) hlt
          have hm := HMe.out _ (rd_mem hlt)
          rw [he0] at z0
          rw [he1] at z1 l7 C7
          generalize PB.rd_T37 (files S) (j : Int) = y at *
          obtain ⟨r, hr, hrt⟩ := sameB_f y.f1 y.f1 (by omega) (y.f1.length + 1) (Nat.lt_succ_self _)
          rw [hrt rfl] at hr
          have HSb := Aside0.mk (fun (wx : World) (hbx : Below wr.heap.size wr wx) => PB.atriumlaw01_sameBytes.calls _ A7 c7 y.f1 A8 c8 y.f1 true wx (Kd.C_below C7 hbx) l7 (Kd.C_below C8 hbx) l8 hr)
          have HSd := Aside0.mk (HSb.out wr.drew (below_drew1 (Below.refl _ _)))
          have Hbb := Aside0.mk (show ∀ wx, Below wr.drew.heap.size wr.drew wx → Below wr.heap.size wr wx from fun wx hb => (below_drew1 (Below.refl wr.heap.size wr)).trans hb)
          have Hz0 := Aside0.mk z0
          have Hz1 := Aside0.mk z1
          have Hy0 := Aside0.mk y0
          have Hy1 := Aside0.mk y1
          have Hce := Aside0.mk (show ∀ {wx : World} {a : Addr} {v : Value}, Below wr.heap.size wr wx → wr.cell? a = some v → wx.cell? a = some v from fun {wx a v} hb h => (hb.cell (World.block_lt_of_cell? wr _ h)).trans h)
          clear hr hrt he0 he1 hm C7 C8 l7 l8
          go_wp2
          go_region_held3 (fun w' => w'.cell? (ad.add (j * 3)) = some (.string y.f0) ∧ w'.cell? ⟨(ad.add (j * 3)).block, (ad.add (j * 3)).off + 1, none⟩ = some (.slice A7 y.f1.length c7) ∧ w'.cell? (ae.add (j * 3)) = some (.string y.f0) ∧ w'.cell? ⟨(ae.add (j * 3)).block, (ae.add (j * 3)).off + 1, none⟩ = some (.slice A8 y.f1.length c8)) (first | exact ⟨z0, z1, y0, y1⟩ | exact ⟨q0, q1, q2, q3⟩ | go_keep) ((go_at_call 19; refine HSd.out.mono ?_; rintro e w7 ⟨rfl, hb⟩; have hbb := Hbb.out _ hb.below; have q0 := Hce.out hbb Hz0.out; have q1 := Hce.out hbb Hz1.out; have q2 := Hce.out hbb Hy0.out; have q3 := Hce.out hbb Hy1.out; have HP7 := Aside0.mk (HP.out.trans (hbb.mono HP.out.size)); clear hb hbb))
          go_wp2
          go_roundw
          case rel => exact ⟨j + 1, by omega, by go_num, HP7⟩
          case measure => simp [intOf]; omega
        · obtain rfl : j = (files S).length := by omega
          have HZ := Aside0.mk (HB6.out.trans (HP.out.mono HB6.out.size))
          go_wp2
          go_ret
          exact ⟨rfl, HZ.out⟩
theorem all_walk (cap : Int) (A : Option Addr) (c : Nat) (xs : List SOp) (W : World) (h0 : (Lit.int .i64 cap).wf = true) (hC : Kd.C kOp W A xs.length xs) (hc : xs.length ≤ c) (hx : xs.length * 136 ≤ 140737488351232 ∧ ∀ e ∈ xs, okO e) :
    Calls Try.prog 7 #[.int .i64 cap, .slice A xs.length c] W fun e w' => e = .returned (.bool true) ∧ Below W.heap.size W w' :=
  all_any cap A c xs W hC hc (by omega) (opOk_of hx.2)
end Go.Proofs.Ytamhecmopnekjaa.Vf
