/- vfs: Crash: its walk. -/
import Derived.Test.YtamhecmopnekjaaVfGG
import Derived.Deep.RegionLaw
namespace Go.Proofs.Ytamhecmopnekjaa.Vf
open Go Go.RowKit Go.Maps Go.Proofs.Ytamhecmopnekjaa Go.Proofs.YtamhecmopnekjaaW.PrintWords
set_option linter.unusedVariables false
set_option linter.unusedSimpArgs false
attribute [local go_sem] Go.Proofs.YtamhecmopnekjaaW.PrintMore.min2_int Go.Proofs.YtamhecmopnekjaaW.PrintMore.min_two

set_option maxHeartbeats 4000000 in
set_option maxRecDepth 100000 in
theorem crash_any (w0 : World) (g : Nat) (S : St) (N : Nat) (dir : Int) (A : Option Addr) (c : Nat) (ks : List Int) (w : World) (h : FsB w0 g S w) (hN : Small S N) (hF : FilesOk S) (hK : ∀ w', Below w0.heap.size w0 w' → KeptT w w' → ReadsInt w' .i64 A ks.length ks) (hkc : ks.length ≤ c) :
    Calls Try.prog 16 #[.pointer (some ⟨g, 0, none⟩), .agg #[.int .i64 dir, .slice A ks.length c]] w fun e w' => KeptT w w' ∧
      ((crashBad S dir ks = true ∧ e = .returned (.int .i64 1) ∧ FsB w0 g S w') ∨ (crashBad S dir ks = false ∧ e = .returned (.int .i64 0) ∧ ∃ bs bn, FsB w0 g (crashS S dir.toNat ks bs bn) w')) := by
  have hu := Try.underlying73
  have huf := Try.underlying78
  have huc := Try.underlying25
  have hut := Try.underlying80
  have hmm := @run_makeMap Try.prog
  obtain ⟨wa, hwa⟩ : ∃ wa, w.alloc (.cells #[.int .i64 dir, .slice A ks.length c] 25) = wa := ⟨_, rfl⟩
  have hba : Below w.heap.size w wa := by rw [← hwa]; exact (Below.refl _ _).alloc (Nat.le_refl _) _
  have hbx : wa.heap[w.heap.size]? = some (.cells #[.int .i64 dir, .slice A ks.length c] 25 (0, 0)) := by rw [← hwa]; exact heap_alloc_new w _
  have ha := h.below hba
  have hka : ∀ w', Below w0.heap.size w0 w' → KeptT wa w' → ReadsInt w' .i64 A ks.length ks := fun w' h1 h2 => hK w' h1 ((KeptT.of_below hba).trans h2)
  have HKa := Aside0.mk (KeptT.of_below hba)
  have HF := Aside0.mk ha
  have HM := Aside0.mk (made_some g S.bs wa (ha.cell 1 _ rfl))
  have HCt := Aside0.mk (fun n : Nat => contains_any A ks.length c ks (wa.drewN n) (hka _ ((ha.drewN n).be) (KeptT.of_below (pw_below_drewN (Below.refl _ _) n))) hkc)
  have HKs := Aside0.mk hka
  have HN := Aside0.mk hN
  have HFo := Aside0.mk hF
  have b0 : wa.cell? ⟨w.heap.size, 0, none⟩ = some (.int .i64 dir) := (blk_cell hbx 0).trans rfl
  have b1 : wa.cell? ⟨w.heap.size, 1, none⟩ = some (.slice A ks.length c) := (blk_cell hbx 1).trans rfl
  have Hbx := Aside0.mk hbx
  obtain ⟨Ap, cap, hpv, hple, hpC⟩ := Kd.R_reads ha.pe
  have c3 : wa.cell? ⟨g, 3, none⟩ = some (.slice Ap S.pend.length cap) := (ha.cell 3 _ rfl).trans (congrArg some hpv)
  have Hpv := Aside0.mk hpv
  have hp1 : S.pend.length ≤ 9223372036854775807 := hpC.2.1
  have hple' : S.pend.length ≤ cap := hple
  clear h hK hF hN ha hka hbx hpC hpv hba hple
  by_cases p1 : dir < 0
  · have d1 : decide (dir < 0) = true := decide_eq_true p1
    have HE := Aside0.mk (show crashBad S dir ks = true by unfold crashBad; rw [d1]; rfl)
    clear p1
    go_enter Try.func16, Try.ntmps16
    go_wp2_with (go_at_call 33; refine HM.out.mono ?_; rintro e w1 ⟨rfl, hw⟩; rw [hw]; clear hw w1)
    go_quiet (fail)
    go_wp2
    go_ret
    exact ⟨HKa.out.trans (KeptT.of_below (pw_below_drewN (Below.refl _ _) _)), .inl ⟨HE.out, rfl, HF.out.drewN _⟩⟩
  · have d1 : decide (dir < 0) = false := decide_eq_false p1
    by_cases p2 : (S.pend.length : Int) < dir
    · have d2 : decide ((S.pend.length : Int) < dir) = true := decide_eq_true p2
      have HE := Aside0.mk (show crashBad S dir ks = true by unfold crashBad; rw [d1, d2]; rfl)
      clear p1 p2
      go_enter Try.func16, Try.ntmps16
      go_wp2_with (go_at_call 33; refine HM.out.mono ?_; rintro e w1 ⟨rfl, hw⟩; rw [hw]; clear hw w1)
      go_quiet (fail)
      go_wp2
      go_ret
      exact ⟨HKa.out.trans (KeptT.of_below (pw_below_drewN (Below.refl _ _) _)), .inl ⟨HE.out, rfl, HF.out.drewN _⟩⟩
    · have d2 : decide ((S.pend.length : Int) < dir) = false := decide_eq_false p2
      cases hbl : below0 ks with
      | true =>
        have HE := Aside0.mk (show crashBad S dir ks = true by unfold crashBad; rw [d1, d2, hbl]; rfl)
        rw [hbl] at HCt
        clear p1 p2 hbl
        go_enter Try.func16, Try.ntmps16
        go_wp2_with (go_at_call 33; refine HM.out.mono ?_; rintro e w1 ⟨rfl, hw⟩; rw [hw]; clear hw w1)
        go_quiet ((go_at_call 43; exact Calls.quiet_of_same (HCt.out _)))
        go_wp2
        go_ret
        exact ⟨HKa.out.trans (KeptT.of_below (pw_below_drewN (Below.refl _ _) _)), .inl ⟨HE.out, rfl, HF.out.drewN _⟩⟩
      | false =>
        have HE := Aside0.mk (show crashBad S dir ks = false by unfold crashBad; rw [d1, d2, hbl]; rfl)
        have Hk0 := Aside0.mk (show ∀ k ∈ ks, 0 ≤ k from fun k hk => by
          have h1 := (List.any_eq_false.1 hbl) k hk
          have h2 : ¬ k < 0 := fun h => h1 (decide_eq_true h)
          omega)
        rw [hbl] at HCt
        obtain ⟨dn, hdn⟩ := Int.eq_ofNat_of_zero_le (show 0 ≤ dir by omega)
        subst hdn
        have hdl : dn ≤ S.pend.length := by omega
        have hpos : (0 : Int) ≤ (dn : Int) := by omega
        have hdl2 : (dn : Int) ≤ (S.pend.length : Int) := by omega
        have hdl3 : (dn : Int) ≤ (cap : Int) := by omega
        clear p1 p2 hbl
        go_enter Try.func16, Try.ntmps16
        go_wp2_with (go_at_call 33; refine HM.out.mono ?_; rintro e w1 ⟨rfl, hw⟩; rw [hw]; clear hw w1)
        go_quiet ((go_at_call 43; exact Calls.quiet_of_same (HCt.out _)))
        rename Nat => nq1
        go_wp2
        go_quiet (fail)
        have HW0 := Aside0.mk (show FsB w0 g { S with lasts := playD (S.pend.take 0) S.lasts } ((wa.drewN nq1).drewN nq) from (HF.out.drewN nq1).drewN nq)
        have HW1 := Aside0.mk (show KeptT wa ((wa.drewN nq1).drewN nq) from (KeptT.of_below (pw_below_drewN (Below.refl _ _) nq1)).trans (KeptT.of_below (pw_below_drewN (Below.refl _ _) nq)))
        generalize (wa.drewN nq1).drewN nq = W1 at HW0 HW1 ⊢
        go_wp2
        go_loopw [42] (fun iv wr => ∃ i : Nat, i ≤ dn ∧ iv = .int .i64 i ∧ Aside0 (FsB w0 g { S with lasts := playD (S.pend.take i) S.lasts } wr) ∧ Aside0 (KeptT wa wr) ∧ Aside0 (Maps.size (playD (S.pend.take i) S.lasts) ≤ Maps.size S.lasts + i)) (fun iv _ => dn - (intOf iv).toNat)
        case atStart => exact ⟨0, Nat.zero_le _, rfl, HW0, HW1, ⟨Nat.le_refl _⟩⟩
        case round =>
          obtain ⟨i, hi, rfl, HFl, HKl, HSz⟩ := hrel
          clear HW0 HW1
          by_cases hlt : i < dn
          · have hpe := HFl.out.pe
            rw [show ({ S with lasts := playD (S.pend.take i) S.lasts } : St).pv = S.pv from rfl, Hpv.out] at hpe
            obtain ⟨ad, rfl, t0, t1, t2, t3⟩ := turn_at (Kd.R_reads' hpe).2.2 i (by show i < S.pend.length; omega)
            have hti : S.pend.getD i zT ∈ S.pend := by rw [List.getD_eq_getElem?_getD, List.getElem?_eq_getElem (by omega)]; exact List.getElem_mem _
            have hok := HFl.out.pn _ hti
            have hsn : playD (S.pend.take (i + 1)) S.lasts = onD (S.pend.getD i zT) (playD (S.pend.take i) S.lasts) := by rw [List.take_succ_eq_append_getElem (by omega), playD_snoc, List.getD_eq_getElem?_getD, List.getElem?_eq_getElem (by omega)]; rfl
            have Hsn := Aside0.mk hsn
            replace t0 : wr.cell? (ad.add (i * 4)) = some (.int .i64 (S.pend.getD i zT).op) := t0
            replace t1 : wr.cell? ⟨(ad.add (i * 4)).block, (ad.add (i * 4)).off + 1, none⟩ = some (.string (S.pend.getD i zT).name) := t1
            replace t2 : wr.cell? ⟨(ad.add (i * 4)).block, (ad.add (i * 4)).off + 2, none⟩ = some (.string (S.pend.getD i zT).dest) := t2
            replace t3 : wr.cell? ⟨(ad.add (i * 4)).block, (ad.add (i * 4)).off + 3, none⟩ = some (ptrV (S.pend.getD i zT).f) := t3
            generalize S.pend.getD i zT = t at *
            obtain ⟨pf, hpf⟩ : ∃ pf : Option Addr, ptrV t.f = .pointer pf := ⟨_, rfl⟩
            rw [hpf] at t3
            have hli : (i : Int) < (dn : Int) := by omega
            have HA := Aside0.mk (HFl.out.alloc (.cells #[.int .i64 t.op, .string t.name, .string t.dest, .pointer pf] TTurn))
            have HAd := Aside0.mk (HA.out.drew)
            have hsz : Maps.size (playD (S.pend.take i) S.lasts) < maxLen := by
              have h1 := HN.out.la; have h2 := HN.out.le; have h3 := HSz.out
              unfold maxLen
              omega
            have hon := on_any t S.bl _ _ S.fb _ HAd.out.la HAd.out.ln hok hsz
            unfold turnV at hon
            rw [hpf] at hon
            have HOn := Aside0.mk hon
            have Hok := Aside0.mk hok
            clear hon
            have hbx := heap_alloc_new wr (.cells #[.int .i64 t.op, .string t.name, .string t.dest, .pointer pf] TTurn)
            have Hbx2 := Aside0.mk hbx
            have e0 : (wr.alloc (.cells #[.int .i64 t.op, .string t.name, .string t.dest, .pointer pf] TTurn)).cell? ⟨wr.heap.size, 0, none⟩ = some (.int .i64 t.op) := (blk_cell hbx 0).trans rfl
            have e1 : (wr.alloc (.cells #[.int .i64 t.op, .string t.name, .string t.dest, .pointer pf] TTurn)).cell? ⟨wr.heap.size, 1, none⟩ = some (.string t.name) := (blk_cell hbx 1).trans rfl
            have e2 : (wr.alloc (.cells #[.int .i64 t.op, .string t.name, .string t.dest, .pointer pf] TTurn)).cell? ⟨wr.heap.size, 2, none⟩ = some (.string t.dest) := (blk_cell hbx 2).trans rfl
            have e3 : (wr.alloc (.cells #[.int .i64 t.op, .string t.name, .string t.dest, .pointer pf] TTurn)).cell? ⟨wr.heap.size, 3, none⟩ = some (.pointer pf) := (blk_cell hbx 3).trans rfl
            have e4 : (wr.alloc (.cells #[.int .i64 t.op, .string t.name, .string t.dest, .pointer pf] TTurn)).cell? ⟨g, 2, none⟩ = some (.map (some S.bl)) := HA.out.cell 2 _ rfl
            clear hpe hti hok hsn hbx hsz hpf
            go_wp2
            go_region_held3 (fun w2 => w2.cell? ⟨wr.heap.size, 0, none⟩ = some (.int .i64 t.op) ∧ w2.cell? ⟨wr.heap.size, 1, none⟩ = some (.string t.name) ∧ w2.cell? ⟨wr.heap.size, 2, none⟩ = some (.string t.dest) ∧ w2.cell? ⟨wr.heap.size, 3, none⟩ = some (.pointer pf) ∧ w2.cell? ⟨g, 2, none⟩ = some (.map (some S.bl))) (first | exact ⟨e0, e1, e2, e3, e4⟩ | exact ⟨x0, x1, x2, x3, x4⟩ | go_keep) ((go_at_call 45; refine (HOn.out).mono ?_; rintro e wx ⟨rfl, ho, hg⟩; have x0 := cells_keep HAd.out.la hg (show (wr.alloc (.cells #[.int .i64 t.op, .string t.name, .string t.dest, .pointer pf] TTurn)).drew.heap[wr.heap.size]? = _ from Hbx2.out) (i := 0) (v := .int .i64 t.op) rfl; have x1 := cells_keep HAd.out.la hg (show (wr.alloc (.cells #[.int .i64 t.op, .string t.name, .string t.dest, .pointer pf] TTurn)).drew.heap[wr.heap.size]? = _ from Hbx2.out) (i := 1) (v := .string t.name) rfl; have x2 := cells_keep HAd.out.la hg (show (wr.alloc (.cells #[.int .i64 t.op, .string t.name, .string t.dest, .pointer pf] TTurn)).drew.heap[wr.heap.size]? = _ from Hbx2.out) (i := 2) (v := .string t.dest) rfl; have x3 := cells_keep HAd.out.la hg (show (wr.alloc (.cells #[.int .i64 t.op, .string t.name, .string t.dest, .pointer pf] TTurn)).drew.heap[wr.heap.size]? = _ from Hbx2.out) (i := 3) (v := .pointer pf) rfl; have x4 := cells_keep HAd.out.la hg HAd.out.fs (i := 2) (v := .map (some S.bl)) rfl; have HO := Aside0.mk ho; have HG := Aside0.mk hg; clear ho hg))
            have hr := HAd.out.rest.lasts (D := playD (S.pend.take (i + 1)) S.lasts) (by rw [Hsn.out]; exact HO.out) (by rw [Hsn.out]; exact named_on HAd.out.ln HAd.out.la.isMap Hok.out) HG.out
            have hfs := fs_keep HAd.out (own_isMap HAd.out.la) HG.out
            have HF3 := Aside0.mk (hr.full HAd.out.gB hfs)
            have HK3 := Aside0.mk ((HKl.out.trans (KeptT.of_below (below_drew1 (below_alloc (Below.refl _ _) _)))).trans (KeptT.map HG.out HAd.out.la))
            have HS3 := Aside0.mk (show Maps.size (playD (S.pend.take (i + 1)) S.lasts) ≤ Maps.size S.lasts + (i + 1) by
              have h1 : Maps.size (onD t (playD (S.pend.take i) S.lasts)) ≤ Maps.size (playD (S.pend.take i) S.lasts) + 1 := size_on t (HAd.out.la.tidy keyed9)
              have h2 := HSz.out
              rw [Hsn.out]
              omega)
            clear hr hfs
            go_wp2
            go_roundw
            case rel => exact ⟨i + 1, by omega, by omega, HF3, HS3⟩
            case measure => simp [intOf]; omega
          · obtain rfl : i = dn := by omega
            obtain ⟨D, hD⟩ : ∃ D, playD (S.pend.take i) S.lasts = D := ⟨_, rfl⟩
            have HD := Aside0.mk hD
            rw [hD] at HFl HSz
            have c2 : wr.cell? ⟨g, 2, none⟩ = some (.map (some S.bl)) := HFl.out.cell 2 _ rfl
            have HCl := Aside0.mk (Try.maps_Clone_owns 9 rdF S.bl (Maps.size D) D wr HFl.out.la)
            have Hrs := Aside0.mk (fun (wx : World) (hb : Below wr.heap.size wr wx) (ho : wx.ownsMap Try.prog 9 rdF wr.heap.size (Maps.size D) D) => reseen_set HFl.out hb (Nat.le_refl _) ho)
            clear hD hlt hi
            go_wp2_with (go_at_call 42; go_loud (refine (HCl.out).mono ?_; rintro e wx ⟨rfl, ho, ho2, hb⟩; have x1 : wx.cell? ⟨g, 1, none⟩ = some (.map (some S.bs)) := (HFl.out.below hb).cell 1 _ rfl; have q1 := blk_frozen (HFl.out.below hb).fs 1; have y3 := (Hrs.out wx hb ho).1; have z3 := (Hrs.out wx hb ho).2.1; have HO := Aside0.mk ho; have HB := Aside0.mk hb; have HS2 := Aside0.mk (show FsB w0 g (reS { S with lasts := D } wr.heap.size) _ from (Hrs.out wx hb ho).2.2.2.1); have HK2 := Aside0.mk (HKl.out.trans (Hrs.out wx hb ho).2.2.2.2); clear ho ho2 hb))
            have hsd : Maps.size D ≤ N := by have h1 := HSz.out; have h2 := HN.out.la; have h3 := hdl; omega
            have hSm : Small (reS { S with lasts := D } wr.heap.size) N := ⟨hsd, hsd, HN.out.le⟩
            have HLi := Aside0.mk (show Calls Try.prog 30 #[.pointer (some ⟨g, 0, none⟩)] ((wx.setCell ⟨g, 1, none⟩ (.map (some wr.heap.size))).setCell ⟨g, 3, none⟩ (.slice none 0 0)) fun e w' => ∃ v, e = .returned v ∧ Kd.string.R 9 w' ((wx.setCell ⟨g, 1, none⟩ (.map (some wr.heap.size))).setCell ⟨g, 3, none⟩ (.slice none 0 0)).heap.size (fun _ => True) v (names D) ∧ Below ((wx.setCell ⟨g, 1, none⟩ (.map (some wr.heap.size))).setCell ⟨g, 3, none⟩ (.slice none 0 0)).heap.size ((wx.setCell ⟨g, 1, none⟩ (.map (some wr.heap.size))).setCell ⟨g, 3, none⟩ (.slice none 0 0)) w' from list_any w0 g _ N _ HS2.out hSm)
            have HNam := Aside0.mk (HS2.out.sn)
            have Hsd := Aside0.mk hsd
            have Hmem := Aside0.mk (fun s => names_mem HS2.out.se HS2.out.sn s)
            clear hsd hSm y3 z3 hpos hdl2 hdl3
            go_wp2_with (go_at_call 30; refine HLi.out.mono ?_; rintro e w5 ⟨v, rfl, hr, hb⟩; obtain ⟨A9, c9, rfl, hle9, _⟩ := Kd.R_reads hr; have HR9 := Aside0.mk hr; have HS5 := Aside0.mk (HS2.out.below hb); have HK5 := Aside0.mk (HK2.out.trans (KeptT.of_below hb)); clear hr hb)
            have hnl : (names D).length ≤ 2000000000000 := by rw [names_len]; exact Nat.le_trans Hsd.out HN.out.le
            have HC5 := Aside0.mk (show FsB w0 g { reS { S with lasts := D } wr.heap.size with fl := crashFl D ks S.fl 0 } w5 from HS5.out)
            have HK50 := Aside0.mk (KeptT.refl w5)
            have hmem0 : ∀ s, s ∈ names D ↔ (look D s).isSome = true := Hmem.out
            have HMem := Aside0.mk hmem0
            have hNam0 : Named D S.fb := HNam.out
            have HNam0 := Aside0.mk hNam0
            clear hmem0 hNam0 Hmem HNam HLi HCl Hrs HS2
            generalize wr.heap.size = nb at *
            generalize hns : names D = ns at *
            have Hns := Aside0.mk hns
            clear hns
            go_loopw [67] (fun iv wr => ∃ j : Nat, j ≤ ns.length ∧ iv = .int .i64 j ∧ Aside0 (FsB w0 g { reS { S with lasts := D } nb with fl := crashFl D ks S.fl j } wr) ∧ Aside0 (KeptT w5 wr)) (fun iv _ => ns.length - (intOf iv).toNat)
            case atStart => exact ⟨0, Nat.zero_le _, rfl, HC5, HK50⟩
            case round =>
              clear HC5 HK50
              obtain ⟨j, hj, rfl, HFj, HKj⟩ := hrel
              by_cases hlt : j < ns.length
              · have HKw := Aside0.mk (HK5.out.trans HKj.out)
                obtain ⟨ad, rfl, hc0⟩ := Kd.at_string (Kd.R_reads' (R_kept HKj.out HR9.out (by decide))).2.2 (j : Int) (by omega) (by omega)
                rw [Int.toNat_natCast] at hc0
                have hs : rdOf ByteArray.empty ns (j : Int) = ns[j] := by unfold rdOf; rw [Int.toNat_natCast, List.getD_eq_getElem?_getD, List.getElem?_eq_getElem hlt]; rfl
                rw [hs] at hc0
                have hmem := (HMem.out ns[j]).1 (List.getElem_mem hlt)
                obtain ⟨f, hf⟩ := Option.isSome_iff_exists.1 hmem
                have hfm := (look_mem HNam0.out hf).1
                have hgd : (look D (ns.getD j ByteArray.empty)).getD 0 = f := by rw [List.getD_eq_getElem?_getD, List.getElem?_eq_getElem hlt]; show (look D ns[j]).getD 0 = f; rw [hf]; rfl
                have hfl1 : crashFl D ks S.fl (j + 1) = updF (crashFl D ks S.fl j) f (crashX (crashFl D ks S.fl j f) (moreX (crashFl D ks S.fl j f) ks[j]?)) := by
                  show updF _ ((look D ((names D).getD j ByteArray.empty)).getD 0) _ = _
                  rw [Hns.out, hgd]
                have hfok : (crashFl D ks S.fl j f).bytes.length ≤ 1048576 ∧ (crashFl D ks S.fl j f).synced ≤ (crashFl D ks S.fl j f).bytes.length := by
                  refine fok_crash (fb := S.fb) HFo.out.fs Hk0.out (fun i hi => ?_) j (by rw [Hns.out]; exact hj) f hfm
                  rw [Hns.out] at hi ⊢
                  have hm2 := (HMem.out ns[i]).1 (List.getElem_mem hi)
                  obtain ⟨f2, hf2⟩ := Option.isSome_iff_exists.1 hm2
                  rw [List.getD_eq_getElem?_getD, List.getElem?_eq_getElem hi]
                  show (look D ns[i]).getD 0 ∈ S.fb
                  rw [hf2]
                  exact (look_mem HNam0.out hf2).1
                have hsm : ns[j].size ≤ maxLen := by
                  obtain ⟨es, hes, hkl⟩ := HFj.out.se.keysOf
                  have hes' : D = .map es := hes
                  have hh := (look_mem HNam0.out hf).2.1
                  rw [hes', Maps.has_eq, List.any_eq_true] at hh
                  obtain ⟨p, hp, hps⟩ := hh
                  obtain ⟨v, hv⟩ := hkl p hp
                  obtain ⟨x, _, hx, hxl⟩ := Maps.keyOf_str Try.underlying9 hv
                  have he := WideAt.sameKey_eq hps
                  rw [hx] at he
                  have : x = ns[j].data.toList := by injection he
                  rw [this, Array.length_toList] at hxl
                  exact hxl
                have hr : (Instr.lookup 69 (.map (some nb)) (.string ns[j]) false).run Try.prog wr = .ok (.pointer (some ⟨f, 0, none⟩)) wr := by
                  have h1 := run_look HFj.out.se HFj.out.sn hsm
                  have h2 : look D ns[j] = some f := hf
                  rw [show look (St.seen _) ns[j] = some f from h2] at h1
                  exact h1
                obtain ⟨vf, hv, hb⟩ := (HFj.out.fi f hfm).cs
                have hv' : wr.heap[f]? = some (.cells #[vf, .int .i64 ((crashFl D ks S.fl j f).synced : Int)] TFile (0, 0)) := hv
                have hb' : BytesAt wr w0.heap.size vf (crashFl D ks S.fl j f).bytes := hb
                have hnil : ∀ {A n c}, vf = .slice A n c → c ≤ maxLen ∧ (A = none → n = 0 ∧ c = 0) := fun {A n c} e => by
                  rcases hb' with ⟨rfl, _⟩ | ⟨k, c', cur, fz, e', h1, h2, h3, h4, h5⟩
                  · injection e with e1 e2 e3
                    subst e1 e2 e3
                    exact ⟨by decide, fun _ => ⟨rfl, rfl⟩⟩
                  · rw [e'] at e
                    injection e with e1 e2 e3
                    subst e1 e2 e3
                    exact ⟨h2, fun h => by cases h⟩
                obtain ⟨Af, cp, rfl, hcp⟩ := hb'.form
                obtain ⟨hcm, hAn⟩ := hnil rfl
                unfold maxLen at hcm
                have hmx := crashX_ok (k := ks[j]?) hfok (fun i hi => Hk0.out i (List.mem_of_getElem? hi))
                obtain ⟨x, hx⟩ : ∃ x, crashFl D ks S.fl j f = x := ⟨_, rfl⟩
                rw [hx] at hv' hb' hcp hfok hmx hfl1 hnil hAn
                have HXf := Aside0.mk hx
                have HFl1 := Aside0.mk hfl1
                obtain ⟨mo, hmo⟩ := Int.eq_ofNat_of_zero_le hmx.2.2.1
                have HMo := Aside0.mk hmo
                have hml : x.synced + mo ≤ x.bytes.length := by have := hmx.2.2.2; rw [hmo] at this; omega
                have HBy := Aside0.mk hb'
                have HV := Aside0.mk hv'
                have HFm := Aside0.mk hfm
                have HCb := Aside0.mk (fun (wx : World) (hbx : Below wr.heap.size wr wx) => clone_row Af (x.synced + mo) cp (x.bytes.take (x.synced + mo)) wx (((hb'.below hbx).take (x.synced + mo) hml).reads) (by omega))
                have d0 : wr.cell? ⟨f, 0, none⟩ = some (.slice Af x.bytes.length cp) := (blk_cell hv' 0).trans rfl
                have d1 : wr.cell? ⟨f, 1, none⟩ = some (.int .i64 (x.synced : Int)) := (blk_cell hv' 1).trans rfl
                have c1 : wr.cell? ⟨g, 1, none⟩ = some (.map (some nb)) := HFj.out.cell 1 _ rfl
                have hbox := HKw.out.2 _ _ _ _ Hbx.out (by decide) (by decide) (by decide)
                have e1 : wr.cell? ⟨w.heap.size, 1, none⟩ = some (.slice A ks.length c) := (blk_cell hbox 1).trans rfl
                have hli : (j : Int) < (ns.length : Int) := by omega
                obtain ⟨s, hs'⟩ : ∃ s, ns[j] = s := ⟨_, rfl⟩
                rw [hs'] at hc0 hr
                obtain ⟨sy, hsy⟩ : ∃ sy, x.synced = sy := ⟨_, rfl⟩
                obtain ⟨ln, hln⟩ : ∃ ln, x.bytes.length = ln := ⟨_, rfl⟩
                have Hsy := Aside0.mk hsy
                have Hln := Aside0.mk hln
                have Hcut := Aside0.mk (show ∀ (w6 : World) (A6 : Option Addr) (c6 : Nat) (n : Nat), Below (wr.drewN n).heap.size (wr.drewN n) w6 → (Kd.int .u8).R 5 w6 (wr.drewN n).heap.size (fun _ => True) (.slice A6 (sy + mo) c6) (Vf.nb (x.bytes.take (sy + mo))) →
                    w6.cell? ⟨f, 0, none⟩ = some (.slice Af ln cp) ∧ w6.frozen? ⟨f, 0, none⟩ = false ∧ (w6.setCell ⟨f, 0, none⟩ (.slice A6 (sy + mo) c6)).cell? ⟨f, 1, none⟩ = some (.int .i64 (sy : Int)) ∧ (w6.setCell ⟨f, 0, none⟩ (.slice A6 (sy + mo) c6)).frozen? ⟨f, 1, none⟩ = false ∧
                    FsB w0 g { reS { S with lasts := D } nb with fl := crashFl D ks S.fl (j + 1) } ((w6.setCell ⟨f, 0, none⟩ (.slice A6 (sy + mo) c6)).setCell ⟨f, 1, none⟩ (.int .i64 ((sy + mo : Nat) : Int))) ∧ KeptT w5 ((w6.setCell ⟨f, 0, none⟩ (.slice A6 (sy + mo) c6)).setCell ⟨f, 1, none⟩ (.int .i64 ((sy + mo : Nat) : Int))) from by
                  intro w6 A6 c6 n hb6 hrow
                  have h6 := (HFj.out.drewN n).below hb6
                  have hv6 : w6.heap[f]? = some (.cells #[.slice Af ln cp, .int .i64 (sy : Int)] TFile (0, 0)) := by rw [← hln, ← hsy]; exact (hb6.block f (blk_lt (show (wr.drewN n).heap[f]? = _ from HV.out))).trans HV.out
                  have hXf : crashFl D ks S.fl j f = x := HXf.out
                  have p0 := file_put0 h6 HFm.out (bytesAt_of_R (Kd.R_lower hrow ((HFj.out.drewN n).be.size)))
                  have hp0 : (w6.setCell ⟨f, 0, none⟩ (.slice A6 (sy + mo) c6)).heap[f]? = some (.cells #[.slice A6 (sy + mo) c6, .int .i64 (sy : Int)] TFile (0, 0)) := by
                    have h1 := p0.2.2
                    rw [show (St.fl _ f).synced = (crashFl D ks S.fl j f).synced from rfl, hXf, hsy] at h1
                    exact h1
                  have p1 := file_put1 (n := sy + mo) p0.1 HFm.out (v := .slice A6 (sy + mo) c6) (by
                    rw [show (St.fl _ f).synced = sy by show (updF (crashFl D ks S.fl j) f ⟨x.bytes.take (sy + mo), (crashFl D ks S.fl j f).synced⟩ f).synced = sy; rw [updF_same, hXf, hsy]]
                    exact hp0)
                  refine ⟨(blk_cell hv6 0).trans rfl, blk_frozen hv6 0, (blk_cell hp0 1).trans rfl, blk_frozen hp0 1, ?_, ?_⟩
                  · have hst : ({ reS { S with lasts := D } nb with fl := crashFl D ks S.fl (j + 1) } : St) = { reS { S with lasts := D } nb with fl := updF (updF (crashFl D ks S.fl j) f ⟨x.bytes.take (sy + mo), (crashFl D ks S.fl j f).synced⟩) f ⟨(updF (crashFl D ks S.fl j) f ⟨x.bytes.take (sy + mo), (crashFl D ks S.fl j f).synced⟩ f).bytes, sy + mo⟩ } := by
                      congr 1
                      rw [HFl1.out, updF_twice, updF_same]
                      congr 1
                      unfold crashX
                      rw [show moreX x ks[j]? = (mo : Int) from HMo.out, Int.toNat_natCast, hsy]
                    rw [hst]
                    exact p1.1
                  · exact (((HKj.out.trans (KeptT.of_below (pw_below_drewN (Below.refl _ _) n))).trans (KeptT.of_below hb6)).trans p0.2.1).trans p1.2)
                rw [hsy] at HCb d1 hml
                rw [hln] at d0 hml hcp
                have hS1 : (ln : Int) ≤ 1048576 := by rw [← hln]; have := hfok.1; omega
                have hS2 : (sy : Int) ≤ (ln : Int) := by rw [← hln, ← hsy]; have := hfok.2; omega
                have hmoE : moreX x ks[j]? = (mo : Int) := hmo
                clear hs hmem hf hgd hfl1 hfok hsm hv hb hv' hb' hnil hAn hmx hbox hx hmo hfm hs'
                obtain ⟨M, hM⟩ : ∃ M, sy + mo = M := ⟨_, rfl⟩
                rw [hM] at Hcut HCb hml
                have HlM := Aside0.mk (show (Vf.nb (x.bytes.take M)).length = M by rw [nb_len, List.length_take]; omega)
                have hb1 : (0 : Int) ≤ (M : Int) := by omega
                have hb2 : (M : Int) ≤ (cp : Int) := by omega
                by_cases hjk : j < ks.length
                · obtain ⟨adk, hA, hck⟩ := (HKs.out wr HFj.out.be HKw.out).2.2 (by omega)
                  have hk1 := hck j hjk
                  subst hA
                  have hgk : ks[j]? = some (ks.getD j 0) := by rw [List.getD_eq_getElem?_getD, List.getElem?_eq_getElem hjk]; rfl
                  rw [hgk] at hmoE
                  generalize ks.getD j 0 = k at *
                  have hmoE' : min k ((x.bytes.length : Int) - (x.synced : Int)) = (mo : Int) := hmoE
                  rw [hsy, hln] at hmoE'
                  have hjl : (j : Int) < (ks.length : Int) := by omega
                  have hsub : wrap64 ((ln : Int) - (sy : Int)) = (ln : Int) - (sy : Int) := by unfold wrap64; omega
                  clear hck hgk hmoE hsy hln
                  by_cases hlk : (ln : Int) - (sy : Int) < k
                  · have hmo2 : (mo : Int) = (ln : Int) - (sy : Int) := by omega
                    have hsum : IntKind.i64.wrap ((sy : Int) + ((ln : Int) - (sy : Int))) = (M : Int) := by rw [IntWalk.i64_in _ (by omega)]; omega
                    clear hmoE' hmo2 hS1 hM
                    go_wp2
                    go_quiet (fail)
                    go_wp2
                    go_region_law (refine step_enter2 36 #[.slice Af M cp] rfl (by go_simp) (HCb.out (wr.drewN (nq + 1)) (pw_below_drewN (Below.refl _ _) (nq + 1))) ?_; rintro v w6 ⟨hrow, hb6⟩; obtain ⟨A6, c6, e6, _⟩ := Kd.R_reads hrow; rw [HlM.out] at e6; subst e6; have k0 := (Hcut.out w6 A6 c6 _ hb6 hrow).1; have l0 := (Hcut.out w6 A6 c6 _ hb6 hrow).2.1; have k1 := (Hcut.out w6 A6 c6 _ hb6 hrow).2.2.1; have l1 := (Hcut.out w6 A6 c6 _ hb6 hrow).2.2.2.1; have HZ := Aside0.mk (Hcut.out w6 A6 c6 _ hb6 hrow).2.2.2.2; clear hrow hb6)
                    all_goals go_wp2
                    all_goals go_roundw
                    all_goals first
                      | exact ⟨j + 1, by omega, by go_num, ⟨HZ.out.1⟩, ⟨HZ.out.2⟩⟩
                      | (simp [intOf]; omega)
                  · have hmo2 : k = (mo : Int) := by omega
                    subst hmo2
                    have hsum : IntKind.i64.wrap ((sy : Int) + (mo : Int)) = (M : Int) := by rw [IntWalk.i64_in _ (by omega)]; omega
                    clear hmoE' hS1 hM
                    go_wp2
                    go_quiet (fail)
                    go_wp2
                    go_region_law (refine step_enter2 36 #[.slice Af M cp] rfl (by go_simp) (HCb.out (wr.drewN (nq + 1)) (pw_below_drewN (Below.refl _ _) (nq + 1))) ?_; rintro v w6 ⟨hrow, hb6⟩; obtain ⟨A6, c6, e6, _⟩ := Kd.R_reads hrow; rw [HlM.out] at e6; subst e6; have k0 := (Hcut.out w6 A6 c6 _ hb6 hrow).1; have l0 := (Hcut.out w6 A6 c6 _ hb6 hrow).2.1; have k1 := (Hcut.out w6 A6 c6 _ hb6 hrow).2.2.1; have l1 := (Hcut.out w6 A6 c6 _ hb6 hrow).2.2.2.1; have HZ := Aside0.mk (Hcut.out w6 A6 c6 _ hb6 hrow).2.2.2.2; clear hrow hb6)
                    all_goals go_wp2
                    all_goals go_roundw
                    all_goals first
                      | exact ⟨j + 1, by omega, by go_num, ⟨HZ.out.1⟩, ⟨HZ.out.2⟩⟩
                      | (simp [intOf]; omega)
                · have hjl : ¬ (j : Int) < (ks.length : Int) := by omega
                  have hmoE' : (0 : Int) = (mo : Int) := by rw [List.getElem?_eq_none (by omega)] at hmoE; exact hmoE
                  obtain rfl : M = sy := by omega
                  have hsum : IntKind.i64.wrap ((M : Int) + 0) = (M : Int) := by rw [IntWalk.i64_in _ (by omega)]; omega
                  have hsum2 : IntKind.i64.wrap (M : Int) = (M : Int) := IntWalk.i64_in _ (by omega)
                  clear hmoE hmoE' hS1 hM hsy hln
                  go_wp2
                  go_region_law (refine step_enter2 36 #[.slice Af M cp] rfl (by go_simp) (HCb.out wr.drew (below_drew1 (Below.refl _ _))) ?_; rintro v w6 ⟨hrow, hb6⟩; obtain ⟨A6, c6, e6, _⟩ := Kd.R_reads hrow; rw [HlM.out] at e6; subst e6; have k0 := (Hcut.out w6 A6 c6 1 hb6 hrow).1; have l0 := (Hcut.out w6 A6 c6 1 hb6 hrow).2.1; have k1 := (Hcut.out w6 A6 c6 1 hb6 hrow).2.2.1; have l1 := (Hcut.out w6 A6 c6 1 hb6 hrow).2.2.2.1; have HZ := Aside0.mk (Hcut.out w6 A6 c6 1 hb6 hrow).2.2.2.2; clear hrow hb6)
                  all_goals go_wp2
                  all_goals go_roundw
                  all_goals first
                      | exact ⟨j + 1, by omega, by go_num, ⟨HZ.out.1⟩, ⟨HZ.out.2⟩⟩
                      | (simp [intOf]; omega)
              · obtain rfl : j = ns.length := by omega
                have hcl := calm_set HFj.out
                have z4 := hcl.1
                have z5 := hcl.2.1
                have z14 := hcl.2.2.1
                have z15 := hcl.2.2.2.1
                have HZ := Aside0.mk hcl.2.2.2.2
                have HKw := Aside0.mk (HK5.out.trans HKj.out)
                obtain ⟨z4a, z4b⟩ := z4
                obtain ⟨z5a, z5b⟩ := z5
                obtain ⟨z14a, z14b⟩ := z14
                obtain ⟨z15a, z15b⟩ := z15
                clear hcl hlt hj
                go_wp2
                go_ret
                refine ⟨(HKa.out.trans HKw.out).trans HZ.out.2, .inr ⟨HE.out, rfl, nb, wr.heap.size, ?_⟩⟩
                have hst : crashS S i ks nb wr.heap.size = calmS { reS { S with lasts := D } nb with fl := crashFl D ks S.fl ns.length } wr.heap.size := by
                  unfold crashS calmS reS
                  rw [HD.out, Hns.out]
                first | rw [hst] | (rw [Int.toNat_natCast, hst])
                exact HZ.out.1
end Go.Proofs.Ytamhecmopnekjaa.Vf
