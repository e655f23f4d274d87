-- Written by xprint.py, a program of this session, over the kit's print (functions walked by hand are taken as given); Lean checks it.
import Derived.Test.YtjlohahknngmmaaDoorPKx0
import Derived.Test.YtjlohahknngmmaaDoorPKx3
namespace Go.Proofs.YtjlohahknngmmaaDoor.PK
open Go.RowKit Go.Proofs.YtjlohahknngmmaaDoorW.PrintWords Go.Proofs.YtjlohahknngmmaaDoorW.PrintLast Go.Proofs.YtjlohahknngmmaaDoorW.PrintMore
attribute [local go_sem] max2_int min2_int max_two min_two max_three min_three max_four min_four   -- for this text's walks alone
set_option linter.unusedVariables false
set_option linter.unusedSimpArgs false

/-! ### atriumref02_Key: walked by hand -/
section
open Go Go.RowKit Go.Proofs.YtjlohahknngmmaaDoor.Ky
theorem esc_snoc (tx : ByteArray) (j : Nat) (h : j < tx.size) : esc (tx.data.toList.take (j + 1)) = esc (tx.data.toList.take j) ++ (if tx[j] = 0 then [tx[j], 255] else [tx[j]]) := by
  have e : tx.data.toList.take (j + 1) = tx.data.toList.take j ++ [tx[j]] := by
    rw [List.take_succ_eq_append_getElem (by rw [sz_len]; exact h)]; rfl
  rw [e, esc_append]
  congr 1
  by_cases h0 : tx[j] = 0
  · rw [if_pos h0, h0]; rfl
  · rw [if_neg h0]; exact esc_n h0 []
set_option maxHeartbeats 4000000 in
set_option maxRecDepth 100000 in
theorem refkey_any (A : Option Addr) (c : Nat) (l : List S51) (w : World) (hC : Kd.C k51 w A l.length l) (hz : szs l ≤ 1048576) (hn : ∀ x ∈ l, okS x) :
    Calls Tryd.prog 8 #[.slice A l.length c] w fun e w' => e = .returned (.tuple #[.string (keyRes l).1, .int .i64 (keyRes l).2]) ∧ Below w.heap.size w w' := by
  have hu := Tryd.underlying51
  have hlen : l.length ≤ 9223372036854775807 := by have := hC.2.1; unfold maxLen at this; omega
  have HC := Aside0.mk hC
  have HN := Aside0.mk hn
  have HZ := Aside0.mk hz
  clear hC hn hz
  by_cases h8 : 8 < l.length
  · have HR := Aside0.mk (show keyRes l = (⟨#[]⟩, 3) by unfold keyRes; rw [if_pos h8])
    go_enter Tryd.func8, Tryd.ntmps8
    go_wp2
    go_ret2
    rw [HR.out]
    exact ⟨rfl, Below.refl _ _⟩
  · have HR := Aside0.mk (show keyRes l = if l.all good = true then (⟨(keyT l).toArray⟩, 0) else (⟨#[]⟩, 1) by unfold keyRes; rw [if_neg h8])
    have hl8 : l.length ≤ 8 := by omega
    clear h8
    have HM := Aside0.mk (show FR w (.slice none 0 0) (keyT (l.take 0)) w from FR.nil w)
    go_enter Tryd.func8, Tryd.ntmps8
    go_wp2
    go_loopw [4, 13] (fun bv iv wr => ∃ (k : Nat) (ad : Option Addr) (n cap : Nat), k ≤ l.length ∧ iv = .int .i64 k ∧ bv = .slice ad n cap ∧ Aside0 ((l.take k).all good = true) ∧ Aside0 (FR w (.slice ad n cap) (keyT (l.take k)) wr)) (fun _ iv _ => l.length - (intOf iv).toNat)
    case atStart => exact ⟨0, none, 0, 0, Nat.zero_le _, rfl, rfl, ⟨rfl⟩, HM⟩
    case round =>
      clear HM
      obtain ⟨k, bad, bn, bcap, hk, rfl, rfl, Hg, HM⟩ := hrel
      by_cases hlt : k < l.length
      · obtain ⟨ad, rfl, c0, c1, c2⟩ := at_T51 (Kd.C_below HC.out HM.out.be) (k : Int) (by omega) (by omega)
        have hmem := rd_mem l k hlt
        have hok := HN.out _ hmem
        have hsz := Nat.le_trans (szs_mem hmem) HZ.out
        have hks := keyT_snoc l k hlt
        have hgs := all_good_take l k hlt
        have hbd := all_bad l k hlt
        rw [Hg.out, Bool.true_and] at hgs
        have hkl : (keyT (l.take k)).length ≤ 2097224 := by
          have h1 := keyT_len (l.take k)
          have h2 := szs_take l k
          have h3 : (l.take k).length ≤ l.length := by rw [List.length_take]; omega
          have h4 := HZ.out
          omega
        obtain ⟨T, hT⟩ : ∃ T, rd_T51 l (k : Int) = T := ⟨_, rfl⟩
        rw [hT] at hgs hks hbd hok hsz c0 c1 c2
        obtain ⟨tx, nu, b⟩ := T
        dsimp only at hgs hks hbd hok hsz c0 c1 c2
        rw [Int.toNat_natCast] at c0 c1 c2
        have Hgs := Aside0.mk hgs
        have Hks := Aside0.mk hks
        have Hbd := Aside0.mk hbd
        have Hok := Aside0.mk hok
        have Hsz := Aside0.mk hsz
        have Hkl := Aside0.mk hkl
        clear hgs hks hbd hok hsz hT hmem hkl
        have HF := Aside0.mk (show FB w (.slice bad bn bcap) (keyT (l.take k)) wr.heap.size #[.string tx, .int .u64 nu, .bool b] 51 (wr.alloc (.cells #[.string tx, .int .u64 nu, .bool b] 51)) from
          have h := HM.out.below ((Below.refl _ _).alloc (Nat.le_refl _) (.cells #[.string tx, .int .u64 nu, .bool b] 51))
          ⟨h.own, h.be, heap_alloc_new wr _, by decide⟩)
        cases b
        case true =>
          by_cases h0 : tx.size = 0
          · obtain rfl : tx = ⟨#[]⟩ := ByteArray.ext (Array.eq_empty_of_size_eq_zero h0)
            have HG := Aside0.mk (show (l.take (k + 1)).all good = true by rw [Hgs.out]; rfl)
            have HK2 := Aside0.mk (show keyT (l.take (k + 1)) = keyT (l.take k) ++ enc (.n nu) by rw [Hks.out]; rfl)
            clear h0
            obtain ⟨g, hg⟩ : ∃ g, wr.heap.size = g := ⟨_, rfl⟩
            rw [hg] at HF
            have Hg2 := Aside0.mk hg
            clear hg
            obtain ⟨wa, hwa⟩ : ∃ wa, wr.alloc (.cells #[.string ⟨#[]⟩, .int .u64 nu, .bool true] 51) = wa := ⟨_, rfl⟩
            rw [hwa] at HF
            have Hwa := Aside0.mk hwa
            clear hwa
            have hc1 := HF.out.at 1
            rw [show (#[Value.string ⟨#[]⟩, .int .u64 nu, .bool true] : Array Value)[1]? = some (.int .u64 nu) from rfl] at hc1
            go_upto_region 10 with fail
            rw [Hwa.out, Hg2.out]
            clear Hwa Hg2 c0 c1 c2
            obtain ⟨S, hS⟩ : ∃ S, strOfNums (nb nu 8) = S := ⟨_, rfl⟩
            have HNm := Aside0.mk (fun wx => ref_number8 nu Hok.out.1 wx)
            rw [hS] at HNm
            have hss : S.size = 8 := by rw [← hS, ← sz_len]; show ((nb nu 8).map _).length = 8; rw [List.length_map, nb_length]
            obtain ⟨X, hX⟩ : ∃ X, keyT (l.take k) = X := ⟨_, rfl⟩
            rw [hX] at HF Hkl HK2
            obtain ⟨Y, hY⟩ : ∃ Y, X ++ [1] = Y := ⟨_, rfl⟩
            have HK3 := Aside0.mk (show keyT (l.take (k + 1)) = Y ++ S.data.toList by rw [HK2.out, ← hY, ← hS, List.append_assoc]; rfl)
            have HY := Aside0.mk hY
            have HYl := Aside0.mk (show Y.length + S.size ≤ 140737488355328 by rw [← hY, hss, List.length_append, List.length_singleton]; have := Hkl.out; omega)
            clear hS hss hX hY HM
            go_region_held3 (fun w' => w'.cell? ⟨g, 1, none⟩ = some (.int .u64 nu)) (first | exact hc1 | exact (HF.out.at 1).trans rfl | exact ((HF.out.drew).at 1).trans rfl | exact ((HF.out.alloc _).at 1).trans rfl | exact (((HF.out.drew).alloc _).at 1).trans rfl | go_keep) (first
              | (go_at_call 29; refine (HNm.out _).mono ?_; rintro e2 w2 ⟨rfl, hb2⟩; first
                  | (have n0_ := HF.out.below hb2; clear hb2 HF hc1; have HF := Aside0.mk n0_; have hc1 := (n0_.at 1).trans rfl; clear n0_)
                  | (have n0_ := HF.out.drew.below hb2; clear hb2 HF hc1; have HF := Aside0.mk n0_; have hc1 := (n0_.at 1).trans rfl; clear n0_)
                  | (have n0_ := (HF.out.alloc _).below hb2; have n1_ := (hb2.cell (p := ⟨_, 0, none⟩) (blk_lt (heap_alloc_new _ _))).trans (cell_of_row _ _ _ _ _ _ (heap_alloc_new _ _)); clear hb2 HF hc1; have HF := Aside0.mk n0_; have HL := Aside0.mk n1_; have hc1 := (n0_.at 1).trans rfl; clear n0_ n1_)
                  | (have n0_ := (HF.out.drew.alloc _).below hb2; have n1_ := (hb2.cell (p := ⟨_, 0, none⟩) (blk_lt (heap_alloc_new _ _))).trans (cell_of_row _ _ _ _ _ _ (heap_alloc_new _ _)); clear hb2 HF hc1; have HF := Aside0.mk n0_; have HL := Aside0.mk n1_; have hc1 := (n0_.at 1).trans rfl; clear n0_ n1_))
              | ((first
                  | refine step_app1 rfl (.tmp 36) (.tmp 37) rfl (HF.out.alloc _) 1 ((cell_of_row _ _ _ _ _ _ (heap_alloc_new _ _)).trans rfl) rfl rfl (by have := Hkl.out; omega) ?_
                  | refine step_app1 rfl (.tmp 36) (.tmp 37) rfl (HF.out.drew.alloc _) 1 ((cell_of_row _ _ _ _ _ _ (heap_alloc_new _ _)).trans rfl) rfl rfl (by have := Hkl.out; omega) ?_
                  | refine step_app1 rfl (.tmp 36) (.tmp 37) rfl HF.out 1 (HL.out.trans rfl) rfl rfl (by have := Hkl.out; omega) ?_); intro ad1 cap1 w1 n0_; rw [HY.out] at n0_; clear HF hc1; have HF := Aside0.mk n0_; have hc1 := (n0_.at 1).trans rfl; clear n0_)
              | (refine step_appS rfl (.tmp 38) (.tmp 41) rfl HF.out S rfl rfl HYl.out ?_; intro ad2 cap2 w3 n0_; rw [← HK3.out] at n0_; clear HF hc1; have HF := Aside0.mk n0_; clear n0_))
            all_goals
              have HF2 := Aside0.mk HF.out.row
              clear HF
              go_wp2
              go_roundw
              case rel => exact ⟨k + 1, _, _, _, by omega, by go_num, rfl, HG, HF2⟩
              case measure => simp [intOf]; omega
          · have e1 : (tx.toList == ([] : List UInt8)) = false := by
              rw [ByteArray.toList_eq, beq_eq_false_iff_ne]; intro e; apply h0; rw [← sz_len, e]; rfl
            have e2 : (tx.toList != ([] : List UInt8)) = true := by rw [bne, e1]; rfl
            have e3 : tx.toList.isEmpty = false := by rw [Bool.eq_false_iff]; intro e; rw [List.isEmpty_iff] at e; rw [e] at e1; exact absurd e1 (by decide)
            have HG := Aside0.mk (Hbd.out (by show decide (tx.size = 0) = false; exact decide_eq_false h0))
            clear h0
            go_wp2
            go_ret2
            rw [HR.out, HG.out]
            exact ⟨rfl, HF.out.be⟩
        case false =>
          by_cases h0 : nu = 0
          · subst h0
            have HG := Aside0.mk (show (l.take (k + 1)).all good = true by rw [Hgs.out]; rfl)
            have HK2 := Aside0.mk (show keyT (l.take (k + 1)) = keyT (l.take k) ++ [2] ++ esc tx.data.toList ++ [0] by rw [Hks.out]; simp [toP, enc])
            obtain ⟨g, hg⟩ : ∃ g, wr.heap.size = g := ⟨_, rfl⟩
            rw [hg] at HF
            have Hg2 := Aside0.mk hg
            clear hg
            obtain ⟨wa, hwa⟩ : ∃ wa, wr.alloc (.cells #[.string tx, .int .u64 0, .bool false] 51) = wa := ⟨_, rfl⟩
            rw [hwa] at HF
            have Hwa := Aside0.mk hwa
            clear hwa
            have he := esc_len tx.data.toList
            rw [sz_len] at he
            have He := Aside0.mk he
            clear he
            have hts : tx.size ≤ 9223372036854775807 := by have := Hsz.out; omega
            go_upto_region 11 with fail
            rw [Hwa.out, Hg2.out]
            go_wp2_with ((with_reducible refine gate_builtin (b := .append) (xs := #[.tmp 43, .tmp 44]) rfl ?_); at_builtin; refine wp_app1 rfl (.tmp 43) (.tmp 44) rfl HF.out 2 rfl rfl rfl (by have := Hkl.out; omega) ?_)
            intro ad1 cap1 w1 hF1
            have HF1 := Aside0.mk (show FB w _ (keyT (l.take k) ++ [2] ++ esc (tx.data.toList.take 0)) _ _ _ w1 by rw [List.take_zero]; simpa [esc] using hF1)
            clear hF1 HF c0 c1 c2 Hwa Hg2
            generalize (keyT (l.take k)).length + 1 = bn1 at *
            go_wp2
            obtain ⟨wo, rfl⟩ : ∃ wo : World, wo = wr := ⟨_, rfl⟩
            go_loopw [4, 7] (fun bv jv wr => ∃ (j : Nat) (ad : Option Addr) (n cap : Nat), j ≤ tx.size ∧ jv = .int .i64 j ∧ bv = .slice ad n cap ∧ Aside0 (FB w (.slice ad n cap) (keyT (l.take k) ++ [2] ++ esc (tx.data.toList.take j)) g #[.string tx, .int .u64 0, .bool false] 51 wr)) (fun _ jv _ => tx.size - (intOf jv).toNat)
            case atStart => exact ⟨0, _, _, _, Nat.zero_le _, rfl, rfl, HF1⟩
            case round =>
              clear HF1
              obtain ⟨j, jad, jn, jcap, hj, rfl, rfl, HJ⟩ := hrel
              have d0 := HJ.out.at 0
              rw [show (#[Value.string tx, .int .u64 0, .bool false] : Array Value)[0]? = some (.string tx) from rfl] at d0
              by_cases hjl : j < tx.size
              · have hji : (j : Int) < (tx.size : Int) := by omega
                have hj0 : (0 : Int) ≤ (j : Int) := by omega
                have hes := esc_snoc tx j hjl
                have hel := esc_len (tx.data.toList.take j)
                rw [List.length_take] at hel
                have Hlen := Aside0.mk (show (keyT (l.take k) ++ [2] ++ esc (tx.data.toList.take j)).length + 2 ≤ 140737488355328 by
                  rw [List.length_append, List.length_append, List.length_singleton]; have := Hkl.out; have := Hsz.out; omega)
                have Hes := Aside0.mk hes
                clear hes hel
                obtain ⟨X, hX⟩ : ∃ X, keyT (l.take k) ++ [2] ++ esc (tx.data.toList.take j) = X := ⟨_, rfl⟩
                rw [hX] at HJ Hlen
                have HX := Aside0.mk hX
                clear hX
                obtain ⟨cn, hcn⟩ : ∃ cn : Nat, tx[j].toNat = cn := ⟨_, rfl⟩
                have hx3 : (tx[j].toNat : Int) = (cn : Int) := by rw [hcn]
                have Hcn := Aside0.mk hcn
                clear hcn
                by_cases hz0 : cn = 0
                · subst hz0
                  have hq0 : tx[j] = 0 := UInt8.toNat_inj.1 Hcn.out
                  have HE2 := Aside0.mk (show X ++ [tx[j]] ++ [255] = keyT (l.take k) ++ [2] ++ esc (tx.data.toList.take (j + 1)) by rw [Hes.out, if_pos hq0, ← HX.out]; simp)
                  clear hq0
                  go_wp2_with ((with_reducible refine gate_builtin (b := .append) (xs := #[.tmp 53, .tmp 58]) rfl ?_); at_builtin; refine wp_app1 rfl (.tmp 53) (.tmp 58) rfl HJ.out tx[j] (by first | rfl | exact hx3.symm) rfl rfl (by have := Hlen.out; omega) ?_)
                  intro ad2 cap2 w2 hF2
                  obtain ⟨Y, hY⟩ : ∃ Y, X ++ [tx[j]] = Y := ⟨_, rfl⟩
                  have hYl : Y.length + 1 ≤ 140737488355328 := by rw [← hY, List.length_append, List.length_singleton]; have := Hlen.out; omega
                  rw [hY] at hF2 HE2
                  have HYl := Aside0.mk hYl
                  clear hY hYl
                  have HF2 := Aside0.mk hF2
                  have d1 := hF2.at 0
                  rw [show (#[Value.string tx, .int .u64 0, .bool false] : Array Value)[0]? = some (.string tx) from rfl] at d1
                  clear hF2 HJ d0
                  generalize X.length + 1 = n2 at *
                  go_wp2_with ((with_reducible refine gate_builtin (b := .append) (xs := #[.tmp 65, .tmp 66]) rfl ?_); at_builtin; refine wp_app1 rfl (.tmp 65) (.tmp 66) rfl HF2.out 255 rfl rfl rfl HYl.out ?_)
                  intro ad3 cap3 w3 hF3
                  rw [HE2.out] at hF3
                  have HF3 := Aside0.mk hF3
                  clear hF3 HF2 d1
                  generalize Y.length + 1 = n3 at *
                  go_wp2
                  go_roundw
                  case rel => exact ⟨j + 1, _, _, _, by omega, by go_num, rfl, HF3⟩
                  case measure => simp [intOf]; omega
                · have hq0 : ¬ tx[j] = 0 := fun e => hz0 (by rw [← Hcn.out, e]; rfl)
                  have HE2 := Aside0.mk (show X ++ [tx[j]] = keyT (l.take k) ++ [2] ++ esc (tx.data.toList.take (j + 1)) by rw [Hes.out, if_neg hq0, ← HX.out]; simp)
                  have hne : ((cn : Int) == 0) = false := beq_eq_false_iff_ne.2 (by omega)
                  clear hq0
                  go_wp2_with ((with_reducible refine gate_builtin (b := .append) (xs := #[.tmp 53, .tmp 58]) rfl ?_); at_builtin; refine wp_app1 rfl (.tmp 53) (.tmp 58) rfl HJ.out tx[j] (by first | rfl | exact hx3.symm) rfl rfl (by have := Hlen.out; omega) ?_)
                  intro ad2 cap2 w2 hF2
                  have d1 := hF2.at 0
                  rw [show (#[Value.string tx, .int .u64 0, .bool false] : Array Value)[0]? = some (.string tx) from rfl] at d1
                  rw [HE2.out] at hF2
                  have HF2 := Aside0.mk hF2
                  clear hF2 HJ d0
                  generalize X.length + 1 = n2 at *
                  go_wp2
                  go_roundw
                  case rel => exact ⟨j + 1, _, _, _, by omega, by go_num, rfl, HF2⟩
                  case measure => simp [intOf]; omega
              · obtain rfl : j = tx.size := by omega
                have hlast : ¬ ((tx.size : Int) < (tx.size : Int)) := by omega
                rw [← sz_len, List.take_length] at HJ
                have Hlen := Aside0.mk (show (keyT (l.take k) ++ [2] ++ esc tx.data.toList).length + 1 ≤ 140737488355328 by
                  rw [List.length_append, List.length_append, List.length_singleton]; have := Hkl.out; have := Hsz.out; have := He.out; omega)
                obtain ⟨Z, hZ⟩ : ∃ Z, keyT (l.take k) ++ [2] ++ esc tx.data.toList = Z := ⟨_, rfl⟩
                rw [hZ] at HJ Hlen HK2
                clear hZ
                go_wp2_with ((with_reducible refine gate_builtin (b := .append) (xs := #[.tmp 68, .tmp 69]) rfl ?_); at_builtin; refine wp_app1 rfl (.tmp 68) (.tmp 69) rfl HJ.out 0 rfl rfl rfl Hlen.out ?_)
                intro ad2 cap2 w2 hF2
                rw [← HK2.out] at hF2
                have HF2 := Aside0.mk hF2.row
                clear hF2 HJ d0
                generalize Z.length + 1 = n2 at *
                go_wp2
                go_roundw
                case rel => exact ⟨k + 1, _, _, _, by omega, by go_num, rfl, HG, HF2⟩
                case measure => simp [intOf]; omega
          · have e1 : (nu == 0) = false := beq_eq_false_iff_ne.2 h0
            have e2 : (nu != 0) = true := by rw [bne, e1]; rfl
            have HG := Aside0.mk (Hbd.out (by show (nu == 0) = false; exact e1))
            clear h0
            go_wp2
            go_ret2
            rw [HR.out, HG.out]
            exact ⟨rfl, HF.out.be⟩
      · obtain rfl : k = l.length := by omega
        rw [List.take_length] at Hg HM
        have HX := Aside0.mk (show keyRes l = (⟨(keyT l).toArray⟩, 0) by rw [HR.out, if_pos Hg.out])
        have hcv := row_text HM.out.own
        go_wp2
        go_ret2
        rw [HX.out]
        exact ⟨rfl, HM.out.be⟩
def atriumref02_Key.f (l0 : List S51) : Option (ByteArray × Int) := if szs l0 ≤ 1048576 ∧ okL l0 = true then some (keyRes l0) else none
theorem atriumref02_Key.calls (A0 : Option Addr) (c0 : Nat) (l0 : List (S51)) (r1 : ByteArray) (r2 : Int) (w : World) (hr0 : Kd.C k51 w A0 l0.length l0) (hc0 : l0.length ≤ c0) (h : atriumref02_Key.f l0 = some (r1, r2)) :
    Calls Tryd.prog 8 #[.slice A0 l0.length c0] w fun e w' => e = .returned (.tuple #[.string r1, .int .i64 r2]) ∧ Below w.heap.size w w' := by
  unfold atriumref02_Key.f at h
  split at h
  · rename_i hs
    injection h with h
    have := refkey_any A0 c0 l0 w hr0 hs.1 (okL_all.1 hs.2)
    rw [h] at this
    exact this
  · cases h
end

end Go.Proofs.YtjlohahknngmmaaDoor.PK
