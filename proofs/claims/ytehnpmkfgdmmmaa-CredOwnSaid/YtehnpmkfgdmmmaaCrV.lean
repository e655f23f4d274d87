/- Walk of the law CredOwn; its plain laws are those of CrQ. -/
import Derived.Test.YtehnpmkfgdmmmaaCrQ
namespace Go.Proofs.Ytehnpmkfgdmmmaa.Pure
open Go Go.RowKit Go.Proofs.Ytehnpmkfgdmmmaa Go.Proofs.Ytehnpmkfgdmmmaa.PK Go.Proofs.YtehnpmkfgdmmmaaW.PrintWords Go.Proofs.YtehnpmkfgdmmmaaW.PrintLast
set_option linter.unusedVariables false
set_option linter.unusedSimpArgs false

theorem wf_u8 {a : Int} (h : (Lit.int .u8 a).wf = true) : ∃ y : UInt8, a = (y.toNat : Int) := by
  simp [Lit.wf] at h
  have h1 : IntKind.u8.min = 0 := rfl
  have h2 : IntKind.u8.max = 255 := rfl
  exact ⟨UInt8.ofNat a.toNat, by rw [UInt8.toNat_ofNat']; omega⟩
theorem wf_i64 {a : Int} (h : (Lit.int .i64 a).wf = true) : -9223372036854775808 ≤ a ∧ a ≤ 9223372036854775807 := by
  simp [Lit.wf] at h
  have h1 : IntKind.i64.min = -9223372036854775808 := rfl
  have h2 : IntKind.i64.max = 9223372036854775807 := rfl
  omega
set_option maxHeartbeats 8000000 in
set_option maxRecDepth 100000 in
theorem own_walk (A : Option Addr) (c : Nat) (l : List S24) (wh at_ by_ : Int) (W : World) (hC : Kd.C k24 W A l.length l) (hc : l.length ≤ c)
    (ho : l.length * 40 ≤ 140737488351232 ∧ ∀ x ∈ l, (x.f0.size ≤ 140737488351232) ∧ (x.f1.size ≤ 140737488351232) ∧ ((Lit.int .i64 x.f2).wf = true)) (hw : (Lit.int .i64 wh).wf = true) (ha : (Lit.int .i64 at_).wf = true) (hy : (Lit.int .u8 by_).wf = true) :
    Calls Try.prog 5 #[.slice A l.length c, .int .i64 wh, .int .i64 at_, .int .u8 by_] W fun e w' => e = .returned (.bool true) ∧ Below W.heap.size W w' := by
  obtain ⟨y, rfl⟩ := wf_u8 hy
  obtain ⟨kL, hkL⟩ := evLives.rounds
  have HkL := Aside0.mk hkL
  have hl : ∀ t ∈ l, t.f0.size ≤ 140737488355328 := fun t ht => Nat.le_trans (ho.2 t ht).1 (by omega)
  have Hl := Aside0.mk hl
  have Hc := Aside0.mk hc
  have HC := Aside0.mk hC
  have Hw := Aside0.mk (wf_i64 hw)
  have Ha := Aside0.mk (wf_i64 ha)
  have hlen : l.length ≤ 140737488351232 := by omega
  clear hkL hl hc hC hw ha ho hy
  have hu := Try.underlying24
  go_enter Try.func5, Try.ntmps5
  go_wp2_with fail
  refine (atriumlaw21_lives.calls kL true _ HkL.out).mono ?_
  rintro e w1 ⟨rfl, hb1⟩
  have HB1 := Aside0.mk hb1
  clear hb1
  go_wp2_with fail
  refine (cred_Check.calls A c l (chk l) _ (Kd.C_below HC.out HB1.out) Hc.out (checkF l Hl.out)).mono ?_
  rintro e w2 ⟨rfl, hb2⟩
  have HB2 := Aside0.mk (HB1.out.trans (hb2.mono HB1.out.size))
  clear hb2 HB1
  rcases chk_two l with hk0 | hk1
  case inr =>
    rw [hk1]
    obtain ⟨kc, hkc⟩ := (evCheck l).rounds
    rw [hk1] at hkc
    have Hkc := Aside0.mk hkc
    clear hkc hk1
    go_wp2_with fail
    refine (atriumref21_Check.calls kc A c l 1 _ (Kd.C_below HC.out HB2.out) Hc.out Hkc.out).mono ?_
    rintro e w3 ⟨rfl, hb3⟩
    have HB3 := Aside0.mk (HB2.out.trans (hb3.mono HB2.out.size))
    clear hb3 HB2
    go_wp2
    go_ret
    exact ⟨rfl, HB3.out⟩
  case inl =>
    rw [hk0]
    obtain ⟨p1, p2, p3⟩ := chk_len l hk0
    have Hk0 := Aside0.mk hk0
    have Hg := Aside0.mk p3
    clear hk0 p3
    obtain ⟨t1, t2⟩ := tmod_at wh l.length (by omega)
    have z1 : ¬ ((l.length : Int) = 0) := by omega
    have z2 : ((l.length : Int) == 0) = false := by rw [beq_eq_false_iff_ne]; exact z1
    by_cases hneg : Int.tmod wh (l.length : Int) < 0
    · obtain ⟨N, hN, hNe⟩ := t1 hneg
      have hn1 : wrap64 (Int.tmod wh (l.length : Int) + (l.length : Int)) = (N : Int) := by rw [hNe]; exact wrap64_nat (by omega)
      have hn2 : IntKind.i64.wrap (Int.tmod wh (l.length : Int) + (l.length : Int)) = (N : Int) := (i64_w _).trans hn1
      have hnd : decide (Int.tmod wh (l.length : Int) < 0) = true := by rw [decide_eq_true_eq]; exact hneg
      clear t1 t2
      obtain ⟨ad, rfl, c0, c1, c2⟩ := at_T24 (Kd.C_below HC.out HB2.out) (N : Int) (by omega) (by omega)
      rw [Int.toNat_natCast] at c0 c1 c2
      obtain ⟨T, hT⟩ : ∃ T, rd_T24 l (N : Int) = T := ⟨_, rfl⟩
      rw [hT] at c0 c1 c2
      have gT := (good_at l l.length (Nat.le_refl _) Hg.out N hN).1
      have gS := Hl.out _ (rd_mem l N hN)
      rw [hT] at gT gS
      have hm2 : (mintT T).2 = 0 := (mint_ok T).2 gT
      have hsz : 1 ≤ (mintT T).1.size := by
        unfold mintT
        rw [if_pos gT]
        show 1 ≤ ((T.f0 ++ ⟨#[46]⟩) ++ sufT T.f0 T.f1).size
        rw [ByteArray.size_append, sufT_size]; omega
      have hsz2 := mintT_size T
      obtain ⟨km, hkm⟩ := (evMint T gS).rounds
      obtain ⟨⟨s, e0⟩, hs⟩ : ∃ r, mintT T = r := ⟨_, rfl⟩
      rw [hs] at hkm hm2 hsz hsz2
      simp only at hm2 hsz hsz2
      subst hm2
      have Hkm := Aside0.mk hkm
      have HT := Aside0.mk hT
      have Hs := Aside0.mk hs
      have hver : verT l s = ((N : Int), 0) := by
        unfold verT
        rw [if_pos Hk0.out]
        have := ver_own l Hg.out N hN l.length 0 (by omega) (by omega)
        rw [hT, hs] at this
        exact this
      obtain ⟨kv, hkv⟩ := (evVer l s Hl.out).rounds
      rw [hver] at hkv
      have Hkv := Aside0.mk hkv
      clear hkm hT hs hver hkv gT gS
      go_wp2_with fail
      refine (cred_Mint.calls km T.f0 T.f1 T.f2 s 0 _ Hkm.out).mono ?_
      rintro e w3 ⟨rfl, hb3⟩
      have HB3 := Aside0.mk (HB2.out.trans (hb3.mono HB2.out.size))
      clear hb3 HB2 c0 c1 c2
      go_wp2_with fail
      refine (cred_Verify.calls kv _ c l s (N : Int) 0 _ (Kd.C_below HC.out HB3.out) Hc.out Hkv.out).mono ?_
      rintro e w4 ⟨rfl, hb4⟩
      have HB4 := Aside0.mk (HB3.out.trans (hb4.mono HB3.out.size))
      clear hb4 HB3
      obtain ⟨t3, t4⟩ := tmod_at at_ s.size (by omega)
      have z3 : ¬ ((s.size : Int) = 0) := by omega
      have z4 : ((s.size : Int) == 0) = false := by rw [beq_eq_false_iff_ne]; exact z3
      by_cases hneg2 : Int.tmod at_ (s.size : Int) < 0
      · obtain ⟨K, hK, hKe⟩ := t3 hneg2
        have hk1 : wrap64 (Int.tmod at_ (s.size : Int) + (s.size : Int)) = (K : Int) := by rw [hKe]; exact wrap64_nat (by omega)
        have hk2 : IntKind.i64.wrap (Int.tmod at_ (s.size : Int) + (s.size : Int)) = (K : Int) := (i64_w _).trans hk1
        have hkd : decide (Int.tmod at_ (s.size : Int) < 0) = true := by rw [decide_eq_true_eq]; exact hneg2
        clear t3 t4
        have kb := print_bytes (P := Try.prog) 9 37 5 Try.underlying9 Try.underlying37 Try.underlying5 s w4
        have hrow := rowB_new w4 s
        have hbel := bytes_below (Below.refl w4.heap.size w4) (Nat.le_refl _) 5 s
        have Hge := Aside0.mk HB4.out.size
        have Hbel := Aside0.mk (HB4.out.trans (hbel.mono HB4.out.size))
        obtain ⟨cp, hcp⟩ : ∃ cp, grownCap w4 s.size 0 5 = cp := ⟨_, rfl⟩
        obtain ⟨g, hg⟩ : ∃ g, w4.heap.size = g := ⟨_, rfl⟩
        rw [hg] at kb hrow Hge
        rw [hcp] at kb
        clear hg hbel hcp HB4
        generalize Lib.bytesWorld w4 5 s = w5 at kb hrow Hbel
        have hcell := hrow K (by rw [len_data]; exact hK)
        have HSet := Aside0.mk (hrow.set K (s.data.toList.getD K 0 ^^^ y))
        have hc1 := hcell.1
        have hc2 := hcell.2
        obtain ⟨b, hb⟩ : ∃ b, s.data.toList.getD K 0 = b := ⟨_, rfl⟩
        have htb : turnB s K y = ⟨(s.data.toList.set K (b ^^^ y)).toArray⟩ := by unfold turnB; rw [hb]
        rw [hb] at hc1 HSet
        have hblim := b.toNat_lt
        have hylim := y.toNat_lt
        have hcv := HSet.out.text s.size cp (by rw [List.length_set, len_data])
        rw [← htb, ← Sha.xor8 b y] at hcv
        have HB6 := Aside0.mk (Hbel.out.setCell (p := ⟨g, K, none⟩) Hge.out (.int .u8 (Go.bits .xor .u8 (b.toNat : Int) (y.toNat : Int))))
        clear hcell hrow hb htb
        by_cases hy0 : y = 0
        · have Hyz := Aside0.mk (show (y.toNat : Int) = 0 by rw [hy0]; rfl)
          have htn := Aside0.mk (show turnB s K y = s by rw [hy0]; exact turn_none s K hK)
          clear hy0
          go_wp2_with fail
          refine (cred_Verify.calls kv _ c l (turnB s K y) (N : Int) 0 _ (Kd.C_below HC.out HB6.out) Hc.out (by rw [htn.out]; exact Hkv.out)).mono ?_
          have hyz := Hyz.out
          have hyd : decide ((y.toNat : Int) = 0) = true := by rw [decide_eq_true_eq]; exact hyz
          rintro e w7 ⟨rfl, hb7⟩
          have HB7 := Aside0.mk (HB6.out.trans (hb7.mono HB6.out.size))
          clear hb7 HB6 hc1 hc2 hcv kb
          go_wp2
          go_ret
          exact ⟨rfl, HB7.out⟩
        · have hyz : ¬ ((y.toNat : Int) = 0) := fun h => hy0 (UInt8.toNat_inj.1 (by show y.toNat = 0; omega))
          have hyd : decide ((y.toNat : Int) = 0) = false := by rw [decide_eq_false_iff_not]; exact hyz
          have hyb : ((y.toNat : Int) == 0) = false := by rw [beq_eq_false_iff_ne]; exact hyz
          obtain ⟨kv2, hkv2⟩ := (evVer l (turnB s K y) Hl.out).rounds
          rw [show verT l (turnB s K y) = verAt l (turnB s K y) l.length 0 by unfold verT; rw [if_pos Hk0.out]] at hkv2
          rcases ver_other l N (turnB s K y) (by rw [HT.out, Hs.out]; exact turn_some s K y hK hy0) l.length 0 with hv | ⟨m, hm, hv⟩
          · rw [hv] at hkv2
            have Hkv2 := Aside0.mk hkv2
            clear hkv2 hv
            go_wp2_with fail
            refine (cred_Verify.calls kv2 _ c l (turnB s K y) 0 210 _ (Kd.C_below HC.out HB6.out) Hc.out Hkv2.out).mono ?_
            rintro e w7 ⟨rfl, hb7⟩
            have HB7 := Aside0.mk (HB6.out.trans (hb7.mono HB6.out.size))
            clear hb7 HB6 hc1 hc2 hcv kb
            go_wp2
            go_ret
            exact ⟨rfl, HB7.out⟩
          · rw [hv] at hkv2
            have Hkv2 := Aside0.mk hkv2
            have hmd : decide ((m : Int) = (N : Int)) = false := by rw [decide_eq_false_iff_not]; exact hm
            have hmb : ((m : Int) == (N : Int)) = false := by rw [beq_eq_false_iff_ne]; exact hm
            have hmn : ((m : Int) != (N : Int)) = true := by rw [bne_iff_ne]; exact hm
            clear hkv2 hv
            go_wp2_with fail
            refine (cred_Verify.calls kv2 _ c l (turnB s K y) (m : Int) 0 _ (Kd.C_below HC.out HB6.out) Hc.out Hkv2.out).mono ?_
            rintro e w7 ⟨rfl, hb7⟩
            have HB7 := Aside0.mk (HB6.out.trans (hb7.mono HB6.out.size))
            clear hb7 HB6 hc1 hc2 hcv kb
            go_wp2
            go_ret
            exact ⟨rfl, HB7.out⟩
      · obtain ⟨K, hK, hKe⟩ := t4 hneg2
        have hkd : decide (Int.tmod at_ (s.size : Int) < 0) = false := by rw [decide_eq_false_iff_not]; exact hneg2
        clear t3 t4
        have kb := print_bytes (P := Try.prog) 9 37 5 Try.underlying9 Try.underlying37 Try.underlying5 s w4
        have hrow := rowB_new w4 s
        have hbel := bytes_below (Below.refl w4.heap.size w4) (Nat.le_refl _) 5 s
        have Hge := Aside0.mk HB4.out.size
        have Hbel := Aside0.mk (HB4.out.trans (hbel.mono HB4.out.size))
        obtain ⟨cp, hcp⟩ : ∃ cp, grownCap w4 s.size 0 5 = cp := ⟨_, rfl⟩
        obtain ⟨g, hg⟩ : ∃ g, w4.heap.size = g := ⟨_, rfl⟩
        rw [hg] at kb hrow Hge
        rw [hcp] at kb
        clear hg hbel hcp HB4
        generalize Lib.bytesWorld w4 5 s = w5 at kb hrow Hbel
        have hcell := hrow K (by rw [len_data]; exact hK)
        have HSet := Aside0.mk (hrow.set K (s.data.toList.getD K 0 ^^^ y))
        have hc1 := hcell.1
        have hc2 := hcell.2
        obtain ⟨b, hb⟩ : ∃ b, s.data.toList.getD K 0 = b := ⟨_, rfl⟩
        have htb : turnB s K y = ⟨(s.data.toList.set K (b ^^^ y)).toArray⟩ := by unfold turnB; rw [hb]
        rw [hb] at hc1 HSet
        have hblim := b.toNat_lt
        have hylim := y.toNat_lt
        have hcv := HSet.out.text s.size cp (by rw [List.length_set, len_data])
        rw [← htb, ← Sha.xor8 b y] at hcv
        have HB6 := Aside0.mk (Hbel.out.setCell (p := ⟨g, K, none⟩) Hge.out (.int .u8 (Go.bits .xor .u8 (b.toNat : Int) (y.toNat : Int))))
        clear hcell hrow hb htb
        by_cases hy0 : y = 0
        · have Hyz := Aside0.mk (show (y.toNat : Int) = 0 by rw [hy0]; rfl)
          have htn := Aside0.mk (show turnB s K y = s by rw [hy0]; exact turn_none s K hK)
          clear hy0
          go_wp2_with fail
          refine (cred_Verify.calls kv _ c l (turnB s K y) (N : Int) 0 _ (Kd.C_below HC.out HB6.out) Hc.out (by rw [htn.out]; exact Hkv.out)).mono ?_
          have hyz := Hyz.out
          have hyd : decide ((y.toNat : Int) = 0) = true := by rw [decide_eq_true_eq]; exact hyz
          rintro e w7 ⟨rfl, hb7⟩
          have HB7 := Aside0.mk (HB6.out.trans (hb7.mono HB6.out.size))
          clear hb7 HB6 hc1 hc2 hcv kb
          go_wp2
          go_ret
          exact ⟨rfl, HB7.out⟩
        · have hyz : ¬ ((y.toNat : Int) = 0) := fun h => hy0 (UInt8.toNat_inj.1 (by show y.toNat = 0; omega))
          have hyd : decide ((y.toNat : Int) = 0) = false := by rw [decide_eq_false_iff_not]; exact hyz
          have hyb : ((y.toNat : Int) == 0) = false := by rw [beq_eq_false_iff_ne]; exact hyz
          obtain ⟨kv2, hkv2⟩ := (evVer l (turnB s K y) Hl.out).rounds
          rw [show verT l (turnB s K y) = verAt l (turnB s K y) l.length 0 by unfold verT; rw [if_pos Hk0.out]] at hkv2
          rcases ver_other l N (turnB s K y) (by rw [HT.out, Hs.out]; exact turn_some s K y hK hy0) l.length 0 with hv | ⟨m, hm, hv⟩
          · rw [hv] at hkv2
            have Hkv2 := Aside0.mk hkv2
            clear hkv2 hv
            go_wp2_with fail
            refine (cred_Verify.calls kv2 _ c l (turnB s K y) 0 210 _ (Kd.C_below HC.out HB6.out) Hc.out Hkv2.out).mono ?_
            rintro e w7 ⟨rfl, hb7⟩
            have HB7 := Aside0.mk (HB6.out.trans (hb7.mono HB6.out.size))
            clear hb7 HB6 hc1 hc2 hcv kb
            go_wp2
            go_ret
            exact ⟨rfl, HB7.out⟩
          · rw [hv] at hkv2
            have Hkv2 := Aside0.mk hkv2
            have hmd : decide ((m : Int) = (N : Int)) = false := by rw [decide_eq_false_iff_not]; exact hm
            have hmb : ((m : Int) == (N : Int)) = false := by rw [beq_eq_false_iff_ne]; exact hm
            have hmn : ((m : Int) != (N : Int)) = true := by rw [bne_iff_ne]; exact hm
            clear hkv2 hv
            go_wp2_with fail
            refine (cred_Verify.calls kv2 _ c l (turnB s K y) (m : Int) 0 _ (Kd.C_below HC.out HB6.out) Hc.out Hkv2.out).mono ?_
            rintro e w7 ⟨rfl, hb7⟩
            have HB7 := Aside0.mk (HB6.out.trans (hb7.mono HB6.out.size))
            clear hb7 HB6 hc1 hc2 hcv kb
            go_wp2
            go_ret
            exact ⟨rfl, HB7.out⟩
    · obtain ⟨N, hN, hNe⟩ := t2 hneg
      have hnd : decide (Int.tmod wh (l.length : Int) < 0) = false := by rw [decide_eq_false_iff_not]; exact hneg
      clear t1 t2
      obtain ⟨ad, rfl, c0, c1, c2⟩ := at_T24 (Kd.C_below HC.out HB2.out) (N : Int) (by omega) (by omega)
      rw [Int.toNat_natCast] at c0 c1 c2
      obtain ⟨T, hT⟩ : ∃ T, rd_T24 l (N : Int) = T := ⟨_, rfl⟩
      rw [hT] at c0 c1 c2
      have gT := (good_at l l.length (Nat.le_refl _) Hg.out N hN).1
      have gS := Hl.out _ (rd_mem l N hN)
      rw [hT] at gT gS
      have hm2 : (mintT T).2 = 0 := (mint_ok T).2 gT
      have hsz : 1 ≤ (mintT T).1.size := by
        unfold mintT
        rw [if_pos gT]
        show 1 ≤ ((T.f0 ++ ⟨#[46]⟩) ++ sufT T.f0 T.f1).size
        rw [ByteArray.size_append, sufT_size]; omega
      have hsz2 := mintT_size T
      obtain ⟨km, hkm⟩ := (evMint T gS).rounds
      obtain ⟨⟨s, e0⟩, hs⟩ : ∃ r, mintT T = r := ⟨_, rfl⟩
      rw [hs] at hkm hm2 hsz hsz2
      simp only at hm2 hsz hsz2
      subst hm2
      have Hkm := Aside0.mk hkm
      have HT := Aside0.mk hT
      have Hs := Aside0.mk hs
      have hver : verT l s = ((N : Int), 0) := by
        unfold verT
        rw [if_pos Hk0.out]
        have := ver_own l Hg.out N hN l.length 0 (by omega) (by omega)
        rw [hT, hs] at this
        exact this
      obtain ⟨kv, hkv⟩ := (evVer l s Hl.out).rounds
      rw [hver] at hkv
      have Hkv := Aside0.mk hkv
      clear hkm hT hs hver hkv gT gS
      go_wp2_with fail
      refine (cred_Mint.calls km T.f0 T.f1 T.f2 s 0 _ Hkm.out).mono ?_
      rintro e w3 ⟨rfl, hb3⟩
      have HB3 := Aside0.mk (HB2.out.trans (hb3.mono HB2.out.size))
      clear hb3 HB2 c0 c1 c2
      go_wp2_with fail
      refine (cred_Verify.calls kv _ c l s (N : Int) 0 _ (Kd.C_below HC.out HB3.out) Hc.out Hkv.out).mono ?_
      rintro e w4 ⟨rfl, hb4⟩
      have HB4 := Aside0.mk (HB3.out.trans (hb4.mono HB3.out.size))
      clear hb4 HB3
      obtain ⟨t3, t4⟩ := tmod_at at_ s.size (by omega)
      have z3 : ¬ ((s.size : Int) = 0) := by omega
      have z4 : ((s.size : Int) == 0) = false := by rw [beq_eq_false_iff_ne]; exact z3
      by_cases hneg2 : Int.tmod at_ (s.size : Int) < 0
      · obtain ⟨K, hK, hKe⟩ := t3 hneg2
        have hk1 : wrap64 (Int.tmod at_ (s.size : Int) + (s.size : Int)) = (K : Int) := by rw [hKe]; exact wrap64_nat (by omega)
        have hk2 : IntKind.i64.wrap (Int.tmod at_ (s.size : Int) + (s.size : Int)) = (K : Int) := (i64_w _).trans hk1
        have hkd : decide (Int.tmod at_ (s.size : Int) < 0) = true := by rw [decide_eq_true_eq]; exact hneg2
        clear t3 t4
        have kb := print_bytes (P := Try.prog) 9 37 5 Try.underlying9 Try.underlying37 Try.underlying5 s w4
        have hrow := rowB_new w4 s
        have hbel := bytes_below (Below.refl w4.heap.size w4) (Nat.le_refl _) 5 s
        have Hge := Aside0.mk HB4.out.size
        have Hbel := Aside0.mk (HB4.out.trans (hbel.mono HB4.out.size))
        obtain ⟨cp, hcp⟩ : ∃ cp, grownCap w4 s.size 0 5 = cp := ⟨_, rfl⟩
        obtain ⟨g, hg⟩ : ∃ g, w4.heap.size = g := ⟨_, rfl⟩
        rw [hg] at kb hrow Hge
        rw [hcp] at kb
        clear hg hbel hcp HB4
        generalize Lib.bytesWorld w4 5 s = w5 at kb hrow Hbel
        have hcell := hrow K (by rw [len_data]; exact hK)
        have HSet := Aside0.mk (hrow.set K (s.data.toList.getD K 0 ^^^ y))
        have hc1 := hcell.1
        have hc2 := hcell.2
        obtain ⟨b, hb⟩ : ∃ b, s.data.toList.getD K 0 = b := ⟨_, rfl⟩
        have htb : turnB s K y = ⟨(s.data.toList.set K (b ^^^ y)).toArray⟩ := by unfold turnB; rw [hb]
        rw [hb] at hc1 HSet
        have hblim := b.toNat_lt
        have hylim := y.toNat_lt
        have hcv := HSet.out.text s.size cp (by rw [List.length_set, len_data])
        rw [← htb, ← Sha.xor8 b y] at hcv
        have HB6 := Aside0.mk (Hbel.out.setCell (p := ⟨g, K, none⟩) Hge.out (.int .u8 (Go.bits .xor .u8 (b.toNat : Int) (y.toNat : Int))))
        clear hcell hrow hb htb
        by_cases hy0 : y = 0
        · have Hyz := Aside0.mk (show (y.toNat : Int) = 0 by rw [hy0]; rfl)
          have htn := Aside0.mk (show turnB s K y = s by rw [hy0]; exact turn_none s K hK)
          clear hy0
          go_wp2_with fail
          refine (cred_Verify.calls kv _ c l (turnB s K y) (N : Int) 0 _ (Kd.C_below HC.out HB6.out) Hc.out (by rw [htn.out]; exact Hkv.out)).mono ?_
          have hyz := Hyz.out
          have hyd : decide ((y.toNat : Int) = 0) = true := by rw [decide_eq_true_eq]; exact hyz
          rintro e w7 ⟨rfl, hb7⟩
          have HB7 := Aside0.mk (HB6.out.trans (hb7.mono HB6.out.size))
          clear hb7 HB6 hc1 hc2 hcv kb
          go_wp2
          go_ret
          exact ⟨rfl, HB7.out⟩
        · have hyz : ¬ ((y.toNat : Int) = 0) := fun h => hy0 (UInt8.toNat_inj.1 (by show y.toNat = 0; omega))
          have hyd : decide ((y.toNat : Int) = 0) = false := by rw [decide_eq_false_iff_not]; exact hyz
          have hyb : ((y.toNat : Int) == 0) = false := by rw [beq_eq_false_iff_ne]; exact hyz
          obtain ⟨kv2, hkv2⟩ := (evVer l (turnB s K y) Hl.out).rounds
          rw [show verT l (turnB s K y) = verAt l (turnB s K y) l.length 0 by unfold verT; rw [if_pos Hk0.out]] at hkv2
          rcases ver_other l N (turnB s K y) (by rw [HT.out, Hs.out]; exact turn_some s K y hK hy0) l.length 0 with hv | ⟨m, hm, hv⟩
          · rw [hv] at hkv2
            have Hkv2 := Aside0.mk hkv2
            clear hkv2 hv
            go_wp2_with fail
            refine (cred_Verify.calls kv2 _ c l (turnB s K y) 0 210 _ (Kd.C_below HC.out HB6.out) Hc.out Hkv2.out).mono ?_
            rintro e w7 ⟨rfl, hb7⟩
            have HB7 := Aside0.mk (HB6.out.trans (hb7.mono HB6.out.size))
            clear hb7 HB6 hc1 hc2 hcv kb
            go_wp2
            go_ret
            exact ⟨rfl, HB7.out⟩
          · rw [hv] at hkv2
            have Hkv2 := Aside0.mk hkv2
            have hmd : decide ((m : Int) = (N : Int)) = false := by rw [decide_eq_false_iff_not]; exact hm
            have hmb : ((m : Int) == (N : Int)) = false := by rw [beq_eq_false_iff_ne]; exact hm
            have hmn : ((m : Int) != (N : Int)) = true := by rw [bne_iff_ne]; exact hm
            clear hkv2 hv
            go_wp2_with fail
            refine (cred_Verify.calls kv2 _ c l (turnB s K y) (m : Int) 0 _ (Kd.C_below HC.out HB6.out) Hc.out Hkv2.out).mono ?_
            rintro e w7 ⟨rfl, hb7⟩
            have HB7 := Aside0.mk (HB6.out.trans (hb7.mono HB6.out.size))
            clear hb7 HB6 hc1 hc2 hcv kb
            go_wp2
            go_ret
            exact ⟨rfl, HB7.out⟩
      · obtain ⟨K, hK, hKe⟩ := t4 hneg2
        have hkd : decide (Int.tmod at_ (s.size : Int) < 0) = false := by rw [decide_eq_false_iff_not]; exact hneg2
        clear t3 t4
        have kb := print_bytes (P := Try.prog) 9 37 5 Try.underlying9 Try.underlying37 Try.underlying5 s w4
        have hrow := rowB_new w4 s
        have hbel := bytes_below (Below.refl w4.heap.size w4) (Nat.le_refl _) 5 s
        have Hge := Aside0.mk HB4.out.size
        have Hbel := Aside0.mk (HB4.out.trans (hbel.mono HB4.out.size))
        obtain ⟨cp, hcp⟩ : ∃ cp, grownCap w4 s.size 0 5 = cp := ⟨_, rfl⟩
        obtain ⟨g, hg⟩ : ∃ g, w4.heap.size = g := ⟨_, rfl⟩
        rw [hg] at kb hrow Hge
        rw [hcp] at kb
        clear hg hbel hcp HB4
        generalize Lib.bytesWorld w4 5 s = w5 at kb hrow Hbel
        have hcell := hrow K (by rw [len_data]; exact hK)
        have HSet := Aside0.mk (hrow.set K (s.data.toList.getD K 0 ^^^ y))
        have hc1 := hcell.1
        have hc2 := hcell.2
        obtain ⟨b, hb⟩ : ∃ b, s.data.toList.getD K 0 = b := ⟨_, rfl⟩
        have htb : turnB s K y = ⟨(s.data.toList.set K (b ^^^ y)).toArray⟩ := by unfold turnB; rw [hb]
        rw [hb] at hc1 HSet
        have hblim := b.toNat_lt
        have hylim := y.toNat_lt
        have hcv := HSet.out.text s.size cp (by rw [List.length_set, len_data])
        rw [← htb, ← Sha.xor8 b y] at hcv
        have HB6 := Aside0.mk (Hbel.out.setCell (p := ⟨g, K, none⟩) Hge.out (.int .u8 (Go.bits .xor .u8 (b.toNat : Int) (y.toNat : Int))))
        clear hcell hrow hb htb
        by_cases hy0 : y = 0
        · have Hyz := Aside0.mk (show (y.toNat : Int) = 0 by rw [hy0]; rfl)
          have htn := Aside0.mk (show turnB s K y = s by rw [hy0]; exact turn_none s K hK)
          clear hy0
          go_wp2_with fail
          refine (cred_Verify.calls kv _ c l (turnB s K y) (N : Int) 0 _ (Kd.C_below HC.out HB6.out) Hc.out (by rw [htn.out]; exact Hkv.out)).mono ?_
          have hyz := Hyz.out
          have hyd : decide ((y.toNat : Int) = 0) = true := by rw [decide_eq_true_eq]; exact hyz
          rintro e w7 ⟨rfl, hb7⟩
          have HB7 := Aside0.mk (HB6.out.trans (hb7.mono HB6.out.size))
          clear hb7 HB6 hc1 hc2 hcv kb
          go_wp2
          go_ret
          exact ⟨rfl, HB7.out⟩
        · have hyz : ¬ ((y.toNat : Int) = 0) := fun h => hy0 (UInt8.toNat_inj.1 (by show y.toNat = 0; omega))
          have hyd : decide ((y.toNat : Int) = 0) = false := by rw [decide_eq_false_iff_not]; exact hyz
          have hyb : ((y.toNat : Int) == 0) = false := by rw [beq_eq_false_iff_ne]; exact hyz
          obtain ⟨kv2, hkv2⟩ := (evVer l (turnB s K y) Hl.out).rounds
          rw [show verT l (turnB s K y) = verAt l (turnB s K y) l.length 0 by unfold verT; rw [if_pos Hk0.out]] at hkv2
          rcases ver_other l N (turnB s K y) (by rw [HT.out, Hs.out]; exact turn_some s K y hK hy0) l.length 0 with hv | ⟨m, hm, hv⟩
          · rw [hv] at hkv2
            have Hkv2 := Aside0.mk hkv2
            clear hkv2 hv
            go_wp2_with fail
            refine (cred_Verify.calls kv2 _ c l (turnB s K y) 0 210 _ (Kd.C_below HC.out HB6.out) Hc.out Hkv2.out).mono ?_
            rintro e w7 ⟨rfl, hb7⟩
            have HB7 := Aside0.mk (HB6.out.trans (hb7.mono HB6.out.size))
            clear hb7 HB6 hc1 hc2 hcv kb
            go_wp2
            go_ret
            exact ⟨rfl, HB7.out⟩
          · rw [hv] at hkv2
            have Hkv2 := Aside0.mk hkv2
            have hmd : decide ((m : Int) = (N : Int)) = false := by rw [decide_eq_false_iff_not]; exact hm
            have hmb : ((m : Int) == (N : Int)) = false := by rw [beq_eq_false_iff_ne]; exact hm
            have hmn : ((m : Int) != (N : Int)) = true := by rw [bne_iff_ne]; exact hm
            clear hkv2 hv
            go_wp2_with fail
            refine (cred_Verify.calls kv2 _ c l (turnB s K y) (m : Int) 0 _ (Kd.C_below HC.out HB6.out) Hc.out Hkv2.out).mono ?_
            rintro e w7 ⟨rfl, hb7⟩
            have HB7 := Aside0.mk (HB6.out.trans (hb7.mono HB6.out.size))
            clear hb7 HB6 hc1 hc2 hcv kb
            go_wp2
            go_ret
            exact ⟨rfl, HB7.out⟩
end Go.Proofs.Ytehnpmkfgdmmmaa.Pure
