/- Walk: the law CodecWrites. Printed by cdwr.py. -/
import Derived.Test.YtjlohahknngmmaaWrM
import Derived.Test.YtjlohahknngmmaaOpen
namespace Go.Proofs.Ytjlohahknngmmaa
open Go Go.RowKit Go.Proofs.YtjlohahknngmmaaW.PrintWords Go.Proofs.YtjlohahknngmmaaW.PrintMore Go.Proofs.YtjlohahknngmmaaW.PrintLast Go.Proofs.Ytjlohahknngmmaa.PureC Go.Proofs.Ytjlohahknngmmaa.PureD
open Go.Proofs.Ytjlohahknngmmaa.PE (S41 k41 rd_T41 at_T41)
set_option linter.unusedVariables false
set_option linter.unusedSimpArgs false

/-- How much the first k steps put at most. -/
def szs (ops : List S41) : Nat := (ops.map fun o => o.f2.size + 10).sum
theorem szs_take (ops : List S41) (k : Nat) (h : k < ops.length) : szs (ops.take (k + 1)) = szs (ops.take k) + ((rd_T41 ops (k : Int)).f2.size + 10) := by
  unfold szs rd_T41
  rw [List.take_succ_eq_append_getElem h, Int.toNat_natCast, List.getD_eq_getElem?_getD, List.getElem?_eq_getElem h]
  simp only [List.map_append, List.map_cons, List.map_nil, List.sum_append, List.sum_cons, List.sum_nil, Option.getD_some]
  omega
theorem szs_le (ops : List S41) (k : Nat) : szs (ops.take k) ≤ szs ops := by
  have h : szs ops = szs (ops.take k) + szs (ops.drop k) := by
    unfold szs
    rw [← List.sum_append, ← List.map_append, List.take_append_drop]
  omega

/-- A state of the law's: the Writer beside what the law has. -/
def WL (w0 : World) (b : Nat) (M : Int) (N : Nat) (al over : Value) (w : World) : Prop := ∃ o a, al = .string a ∧ over = .bool o ∧ WS w0 b M o a N w
theorem WL.mk {w0 : World} {b : Nat} {M : Int} {N N' : Nat} {a : ByteArray} {o : Bool} {h : Nat} {cs : Array Value} {w : World} (hw : WSH w0 b M o a N h cs w) (hN : N ≤ N') : WL w0 b M N' (.string a) (.bool o) w := by
  obtain ⟨v, l, h1, h2, h3, h4, h5, _⟩ := hw
  exact ⟨o, a, rfl, rfl, v, l, h1, h2, h3, h4, Nat.le_trans h5 hN⟩

set_option maxHeartbeats 4000000 in
set_option maxRecDepth 100000 in
theorem writes_any (most : Int) (A : Option Addr) (c : Nat) (ops : List S41) (w : World) (hm0 : -9223372036854775808 ≤ most) (hm1 : most ≤ 9223372036854775807) (hC : Kd.C k41 w A ops.length ops) (hn : ∀ o ∈ ops, (0 ≤ o.f1 ∧ o.f1 ≤ 18446744073709551615) ∧ o.f2.size ≤ 140737488351232) (hs : szs ops ≤ 140737488355328) :
    Calls Try.prog 5 #[.int .i64 most, .slice A ops.length c] w fun e w' => e = .returned (.bool true) ∧ Below w.heap.size w w' := by
  have hu := Try.underlying41
  have hup := Try.underlying24
  have hlen : ops.length ≤ 9223372036854775807 := by have := hC.2.1; unfold maxLen at this; omega
  have HN := Aside0.mk hn
  have HC := Aside0.mk hC
  have HS := Aside0.mk hs
  clear hn hC hs
  obtain ⟨M, hM⟩ : ∃ M : Int, mx most 0 = M := ⟨_, rfl⟩
  have hM3 : M = most ∧ 0 ≤ most ∨ M = 0 ∧ most < 0 := by rw [← hM]; unfold mx; split <;> omega
  have HM := Aside0.mk hM
  have HM3 := Aside0.mk hM3
  have hMa : 0 ≤ M := by omega
  have hMb : M ≤ 9223372036854775807 := by omega
  clear hM hM3
  go_enter Try.func5, Try.ntmps5
  go_wp2_with (go_at_call 12; refine (newWriter_any most w.heap.size _ (Nat.le_refl _)).mono ?_)
  rintro e w1 ⟨b, rfl, hW, hB, _⟩
  have HW1 : Aside0 (WS w b M false ⟨#[]⟩ 0 w1) := ⟨by rw [HM.out] at hW; exact ⟨_, [], hW, hB, rfl, (fun _ => hMa), Nat.le_refl _⟩⟩
  clear hW hB
  go_wp2_with (go_at_call 11; refine (awake_any _).mono ?_)
  rintro e w2 ⟨rfl, hb⟩
  have HW2 := Aside0.mk (HW1.out.below hb)
  clear hb HW1
  go_wp2
  go_loopw [6, 7, 25] (fun a o i wr => ∃ k : Nat, k ≤ ops.length ∧ i = .int .i64 k ∧ WL w b M (szs (ops.take k)) a o wr) (fun _ _ i _ => ops.length - (intOf i).toNat)
  case atStart => exact ⟨0, Nat.zero_le _, rfl, false, ⟨#[]⟩, rfl, rfl, HW2.out⟩
  case round =>
    obtain ⟨k, hk, rfl, hWL⟩ := hrel
    obtain ⟨ov, al, rfl, rfl, hWS⟩ := hWL
    by_cases hlt : k < ops.length
    · obtain ⟨ad, rfl, c0, c1, c2⟩ := at_T41 (Kd.C_below HC.out hWS.bel) (k : Int) (by omega) (by omega)
      obtain ⟨⟨n0, n1⟩, ts⟩ := HN.out _ (rd_mem ops k hlt)
      have hst := szs_take ops k hlt
      have hsl := szs_le ops (k + 1)
      have HS2 := HS.out
      generalize rd_T41 ops (k : Int) = o at *
      obtain ⟨kind, n, t⟩ := o
      dsimp only at n0 n1 c0 c1 c2 hst ts
      rw [Int.toNat_natCast] at c0 c1 c2
      have htb := opText_le kind n t
      obtain ⟨fa, fm, fe⟩ := hWS.facts
      have HF := Aside0.mk (show (szs (ops.take k) + (opText kind n t).size ≤ 140737488355328) ∧ szs (ops.take k) + (opText kind n t).size ≤ szs (ops.take (k + 1)) from ⟨by omega, by omega⟩)
      have hal : al.size ≤ 140737488355328 := by omega
      have HK7 := Aside0.mk (show kind = 7 → opText kind n t = ⟨#[]⟩ from fun h => by subst h; rfl)
      have HWS := Aside0.mk hWS
      clear hst hsl HS2 htb fa hWS
      generalize htb : opText kind n t = tb at *
      have HTB := Aside0.mk htb
      clear htb
      -- the four ways
      rcases Decidable.em (ov = true) with hov | hov
      · obtain rfl := fe hov
        subst hov
        have HX := Aside0.mk (show nx M true ⟨#[]⟩ tb = (true, ⟨#[]⟩) from rfl)
        clear fm fe
        have HH := Aside0.mk (HWS.out.with #[.int .i64 kind, .int .u64 n, .string t])
        by_cases hk7 : kind = 7
        · subst hk7
          obtain rfl := HK7.out rfl
          go_wp2_with (go_at_call 20; refine (write_ws w b M true ⟨#[]⟩ _ _ _ _ 7 n t n0 (by omega) ts hMa hMb (by rw [HTB.out]; exact HF.out.1) HH.out).mono ?_)
          intro e w3
          first | (intro he hR; subst he) | rintro ⟨rfl, hR⟩
          have HW3 : Aside0 (WSH w b M true ⟨#[]⟩ _ _ _ w3) := ⟨by rw [HTB.out, HX.out] at hR; exact hR⟩
          have d0 := HW3.out.cell 0 rfl
          have d1 := HW3.out.cell 1 rfl
          have d2 := HW3.out.cell 2 rfl
          clear hR
          go_wp2_with (go_at_call 21; refine (bytes_ws w b M true ⟨#[]⟩ _ _ _ _ 7 n t n0 (by omega) ts HW3.out).mono ?_)
          intro e w4
          first | (intro he hR; subst he) | rintro ⟨rfl, hR⟩
          rw [HTB.out]
          have HW4 := Aside0.mk hR
          clear d0 d1 d2
          have d0 := HW4.out.cell 0 rfl
          have d1 := HW4.out.cell 1 rfl
          have d2 := HW4.out.cell 2 rfl
          clear hR
          go_wp2_with (go_at_call 14; refine (done_ws 3 w b M true ⟨#[]⟩ _ _ _ _ HW4.out rfl).mono ?_)
          intro e w5
          first | (intro he hR; subst he) | rintro ⟨rfl, hR⟩
          have HW5 := Aside0.mk hR
          clear hR
          go_wp2_with (go_at_call 22; refine (len_ws w b M true ⟨#[]⟩ _ _ _ _ HW5.out).mono ?_)
          intro e w6
          first | (intro he hR; subst he) | rintro ⟨rfl, hR⟩
          have HW6 := Aside0.mk hR
          clear hR
          go_wp2
          go_roundw
          case rel => exact ⟨k + 1, by omega, by go_num, WL.mk HW6.out HF.out.2⟩
          case measure => simp [intOf]; omega
        · have hk8 : (kind == 7) = false := beq_eq_false_iff_ne.mpr hk7
          clear hk7 HK7
          go_wp2_with (go_at_call 20; refine (write_ws w b M true ⟨#[]⟩ _ _ _ _ kind n t n0 (by omega) ts hMa hMb (by rw [HTB.out]; exact HF.out.1) HH.out).mono ?_)
          intro e w3
          first | (intro he hR; subst he) | rintro ⟨rfl, hR⟩
          have HW3 : Aside0 (WSH w b M true ⟨#[]⟩ _ _ _ w3) := ⟨by rw [HTB.out, HX.out] at hR; exact hR⟩
          have d0 := HW3.out.cell 0 rfl
          have d1 := HW3.out.cell 1 rfl
          have d2 := HW3.out.cell 2 rfl
          clear hR
          go_wp2_with (go_at_call 21; refine (bytes_ws w b M true ⟨#[]⟩ _ _ _ _ kind n t n0 (by omega) ts HW3.out).mono ?_)
          intro e w4
          first | (intro he hR; subst he) | rintro ⟨rfl, hR⟩
          rw [HTB.out]
          have HW4 := Aside0.mk hR
          clear d0 d1 d2
          have d0 := HW4.out.cell 0 rfl
          have d1 := HW4.out.cell 1 rfl
          have d2 := HW4.out.cell 2 rfl
          clear hR
          go_wp2
          go_roundw
          case rel => exact ⟨k + 1, by omega, by go_num, WL.mk HW4.out HF.out.2⟩
          case measure => simp [intOf]; omega
      · obtain rfl : ov = false := by simpa using hov
        have fm2 := fm rfl
        clear fm fe hov
        have hm3 := HM3.out
        have hmin : -9223372036854775808 ≤ most - (al.size : Int) := by omega
        have hmax : most - (al.size : Int) ≤ 9223372036854775807 := by omega
        by_cases hfit : most - (al.size : Int) < (tb.size : Int)
        · by_cases hz : 0 < tb.size
          · have HX := Aside0.mk (show nx M false al tb = (true, ⟨#[]⟩) by unfold nx; rw [if_neg (by decide), if_pos (by omega)])
            clear hm3 fm2
            have HH := Aside0.mk (HWS.out.with #[.int .i64 kind, .int .u64 n, .string t])
            by_cases hk7 : kind = 7
            · subst hk7
              obtain rfl := HK7.out rfl
              exact absurd hz (by decide)
            · have hk8 : (kind == 7) = false := beq_eq_false_iff_ne.mpr hk7
              clear hk7 HK7
              go_wp2_with (go_at_call 20; refine (write_ws w b M false al _ _ _ _ kind n t n0 (by omega) ts hMa hMb (by rw [HTB.out]; exact HF.out.1) HH.out).mono ?_)
              intro e w3
              first | (intro he hR; subst he) | rintro ⟨rfl, hR⟩
              have HW3 : Aside0 (WSH w b M true ⟨#[]⟩ _ _ _ w3) := ⟨by rw [HTB.out, HX.out] at hR; exact hR⟩
              have d0 := HW3.out.cell 0 rfl
              have d1 := HW3.out.cell 1 rfl
              have d2 := HW3.out.cell 2 rfl
              clear hR
              go_wp2_with (go_at_call 21; refine (bytes_ws w b M true ⟨#[]⟩ _ _ _ _ kind n t n0 (by omega) ts HW3.out).mono ?_)
              intro e w4
              first | (intro he hR; subst he) | rintro ⟨rfl, hR⟩
              rw [HTB.out]
              have HW4 := Aside0.mk hR
              clear d0 d1 d2
              have d0 := HW4.out.cell 0 rfl
              have d1 := HW4.out.cell 1 rfl
              have d2 := HW4.out.cell 2 rfl
              clear hR
              go_wp2
              go_roundw
              case rel => exact ⟨k + 1, by omega, by go_num, WL.mk HW4.out HF.out.2⟩
              case measure => simp [intOf]; omega
          · have HX := Aside0.mk (show nx M false al tb = (false, al ++ tb) by unfold nx; rw [if_neg (by decide), if_neg (by omega)])
            clear hm3 fm2
            have HH := Aside0.mk (HWS.out.with #[.int .i64 kind, .int .u64 n, .string t])
            by_cases hk7 : kind = 7
            · subst hk7
              obtain rfl := HK7.out rfl
              go_wp2_with (go_at_call 20; refine (write_ws w b M false al _ _ _ _ 7 n t n0 (by omega) ts hMa hMb (by rw [HTB.out]; exact HF.out.1) HH.out).mono ?_)
              intro e w3
              first | (intro he hR; subst he) | rintro ⟨rfl, hR⟩
              have HW3 : Aside0 (WSH w b M false (al ++ (⟨#[]⟩ : ByteArray)) _ _ _ w3) := ⟨by rw [HTB.out, HX.out] at hR; exact hR⟩
              have d0 := HW3.out.cell 0 rfl
              have d1 := HW3.out.cell 1 rfl
              have d2 := HW3.out.cell 2 rfl
              clear hR
              go_wp2_with (go_at_call 21; refine (bytes_ws w b M false (al ++ (⟨#[]⟩ : ByteArray)) _ _ _ _ 7 n t n0 (by omega) ts HW3.out).mono ?_)
              intro e w4
              first | (intro he hR; subst he) | rintro ⟨rfl, hR⟩
              rw [HTB.out]
              have HW4 := Aside0.mk hR
              clear d0 d1 d2
              have d0 := HW4.out.cell 0 rfl
              have d1 := HW4.out.cell 1 rfl
              have d2 := HW4.out.cell 2 rfl
              clear hR
              go_wp2_with (go_at_call 14; refine (done_ws 0 w b M false (al ++ (⟨#[]⟩ : ByteArray)) _ _ _ _ HW4.out rfl).mono ?_)
              intro e w5
              first | (intro he hR; subst he) | rintro ⟨rfl, hR⟩
              have HW5 := Aside0.mk hR
              clear hR
              go_wp2_with (go_at_call 22; refine (len_ws w b M false (al ++ (⟨#[]⟩ : ByteArray)) _ _ _ _ HW5.out).mono ?_)
              intro e w6
              first | (intro he hR; subst he) | rintro ⟨rfl, hR⟩
              have HW6 := Aside0.mk hR
              clear hR
              go_wp2
              go_roundw
              case rel => exact ⟨k + 1, by omega, by go_num, WL.mk HW6.out HF.out.2⟩
              case measure => simp [intOf]; omega
            · have hk8 : (kind == 7) = false := beq_eq_false_iff_ne.mpr hk7
              clear hk7 HK7
              go_wp2_with (go_at_call 20; refine (write_ws w b M false al _ _ _ _ kind n t n0 (by omega) ts hMa hMb (by rw [HTB.out]; exact HF.out.1) HH.out).mono ?_)
              intro e w3
              first | (intro he hR; subst he) | rintro ⟨rfl, hR⟩
              have HW3 : Aside0 (WSH w b M false (al ++ tb) _ _ _ w3) := ⟨by rw [HTB.out, HX.out] at hR; exact hR⟩
              have d0 := HW3.out.cell 0 rfl
              have d1 := HW3.out.cell 1 rfl
              have d2 := HW3.out.cell 2 rfl
              clear hR
              go_wp2_with (go_at_call 21; refine (bytes_ws w b M false (al ++ tb) _ _ _ _ kind n t n0 (by omega) ts HW3.out).mono ?_)
              intro e w4
              first | (intro he hR; subst he) | rintro ⟨rfl, hR⟩
              rw [HTB.out]
              have HW4 := Aside0.mk hR
              clear d0 d1 d2
              have d0 := HW4.out.cell 0 rfl
              have d1 := HW4.out.cell 1 rfl
              have d2 := HW4.out.cell 2 rfl
              clear hR
              go_wp2
              go_roundw
              case rel => exact ⟨k + 1, by omega, by go_num, WL.mk HW4.out HF.out.2⟩
              case measure => simp [intOf]; omega
        · have HX := Aside0.mk (show nx M false al tb = (false, al ++ tb) by unfold nx; rw [if_neg (by decide), if_neg (by omega)])
          clear hm3 fm2
          have HH := Aside0.mk (HWS.out.with #[.int .i64 kind, .int .u64 n, .string t])
          by_cases hk7 : kind = 7
          · subst hk7
            obtain rfl := HK7.out rfl
            go_wp2_with (go_at_call 20; refine (write_ws w b M false al _ _ _ _ 7 n t n0 (by omega) ts hMa hMb (by rw [HTB.out]; exact HF.out.1) HH.out).mono ?_)
            intro e w3
            first | (intro he hR; subst he) | rintro ⟨rfl, hR⟩
            have HW3 : Aside0 (WSH w b M false (al ++ (⟨#[]⟩ : ByteArray)) _ _ _ w3) := ⟨by rw [HTB.out, HX.out] at hR; exact hR⟩
            have d0 := HW3.out.cell 0 rfl
            have d1 := HW3.out.cell 1 rfl
            have d2 := HW3.out.cell 2 rfl
            clear hR
            go_wp2_with (go_at_call 21; refine (bytes_ws w b M false (al ++ (⟨#[]⟩ : ByteArray)) _ _ _ _ 7 n t n0 (by omega) ts HW3.out).mono ?_)
            intro e w4
            first | (intro he hR; subst he) | rintro ⟨rfl, hR⟩
            rw [HTB.out]
            have HW4 := Aside0.mk hR
            clear d0 d1 d2
            have d0 := HW4.out.cell 0 rfl
            have d1 := HW4.out.cell 1 rfl
            have d2 := HW4.out.cell 2 rfl
            clear hR
            go_wp2_with (go_at_call 14; refine (done_ws 0 w b M false (al ++ (⟨#[]⟩ : ByteArray)) _ _ _ _ HW4.out rfl).mono ?_)
            intro e w5
            first | (intro he hR; subst he) | rintro ⟨rfl, hR⟩
            have HW5 := Aside0.mk hR
            clear hR
            go_wp2_with (go_at_call 22; refine (len_ws w b M false (al ++ (⟨#[]⟩ : ByteArray)) _ _ _ _ HW5.out).mono ?_)
            intro e w6
            first | (intro he hR; subst he) | rintro ⟨rfl, hR⟩
            have HW6 := Aside0.mk hR
            clear hR
            go_wp2
            go_roundw
            case rel => exact ⟨k + 1, by omega, by go_num, WL.mk HW6.out HF.out.2⟩
            case measure => simp [intOf]; omega
          · have hk8 : (kind == 7) = false := beq_eq_false_iff_ne.mpr hk7
            clear hk7 HK7
            go_wp2_with (go_at_call 20; refine (write_ws w b M false al _ _ _ _ kind n t n0 (by omega) ts hMa hMb (by rw [HTB.out]; exact HF.out.1) HH.out).mono ?_)
            intro e w3
            first | (intro he hR; subst he) | rintro ⟨rfl, hR⟩
            have HW3 : Aside0 (WSH w b M false (al ++ tb) _ _ _ w3) := ⟨by rw [HTB.out, HX.out] at hR; exact hR⟩
            have d0 := HW3.out.cell 0 rfl
            have d1 := HW3.out.cell 1 rfl
            have d2 := HW3.out.cell 2 rfl
            clear hR
            go_wp2_with (go_at_call 21; refine (bytes_ws w b M false (al ++ tb) _ _ _ _ kind n t n0 (by omega) ts HW3.out).mono ?_)
            intro e w4
            first | (intro he hR; subst he) | rintro ⟨rfl, hR⟩
            rw [HTB.out]
            have HW4 := Aside0.mk hR
            clear d0 d1 d2
            have d0 := HW4.out.cell 0 rfl
            have d1 := HW4.out.cell 1 rfl
            have d2 := HW4.out.cell 2 rfl
            clear hR
            go_wp2
            go_roundw
            case rel => exact ⟨k + 1, by omega, by go_num, WL.mk HW4.out HF.out.2⟩
            case measure => simp [intOf]; omega
    · obtain ⟨fa, fm, fe⟩ := hWS.facts
      have hsl := szs_le ops k
      have HS2 := HS.out
      have hal : al.size ≤ 140737488355328 := by omega
      have HWS := Aside0.mk hWS
      clear hWS fa fm fe hsl HS2
      cases ov with
      | true =>
        go_wp2_with (go_at_call 14; refine (wdone_ws 3 w b M true al _ _ HWS.out rfl).mono ?_)
        intro e w5
        first | (intro he hR; subst he) | rintro ⟨rfl, hR⟩
        have HW5 := Aside0.mk hR
        clear hR
        go_wp2_with (go_at_call 22; refine (wlen_ws w b M true al _ _ HW5.out).mono ?_)
        intro e w6
        first | (intro he hR; subst he) | rintro ⟨rfl, hR⟩
        have HW6 := Aside0.mk hR
        clear hR
        go_wp2
        go_ret
        exact ⟨by simp, HW6.out.bel⟩
      | false =>
        go_wp2_with (go_at_call 14; refine (wdone_ws 0 w b M false al _ _ HWS.out rfl).mono ?_)
        intro e w5
        first | (intro he hR; subst he) | rintro ⟨rfl, hR⟩
        have HW5 := Aside0.mk hR
        clear hR
        go_wp2_with (go_at_call 22; refine (wlen_ws w b M false al _ _ HW5.out).mono ?_)
        intro e w6
        first | (intro he hR; subst he) | rintro ⟨rfl, hR⟩
        have HW6 := Aside0.mk hR
        clear hR
        go_wp2
        go_ret
        exact ⟨by simp, HW6.out.bel⟩

theorem szs_lwt : ∀ ops : List S41, szs ops ≤ 10 * Opn.lwt (fun x => (1 + (1 + (x.f2.size + 1))) + 1) ops
  | [] => by simp [szs, Opn.lwt]
  | o :: ops => by
    have h := szs_lwt ops
    simp only [szs, List.map_cons, List.sum_cons, Opn.lwt] at h ⊢
    omega
end Go.Proofs.Ytjlohahknngmmaa
namespace Go.Proofs.Ytjlohahknngmmaa
open Go Go.Proofs.YtjlohahknngmmaaW.PrintWords
set_option linter.unusedVariables false in
theorem writes_walk (most : Int) (A : Option Addr) (c : Nat) (ops : List PE.S41) (W : World) (w0 : (Lit.int .i64 most).wf = true) (hC : Kd.C PE.k41 W A ops.length ops) (hL : ops.length ≤ c) (ho : ops.length * 32 ≤ 140737488351232 ∧ ∀ x ∈ ops, (Lit.int .i64 x.f0).wf = true ∧ (Lit.int .u64 x.f1).wf = true ∧ x.f2.size ≤ 140737488351232)
    (hb : 1 + (Opn.lwt (fun x : PE.S41 => (1 + (1 + (x.f2.size + 1))) + 1) ops + 1) ≤ 1048576) :
    Calls Try.prog 5 #[.int .i64 most, .slice A ops.length c] W fun e w' => e = .returned (.bool true) ∧ Go.RowKit.Below W.heap.size W w' := by
  have h : -9223372036854775808 ≤ most ∧ most ≤ 9223372036854775807 := by simpa [Lit.wf, IntKind.min, IntKind.max, IntKind.signed, IntKind.bits] using w0
  have hs := szs_lwt ops
  refine writes_any most A c ops W h.1 h.2 hC (fun o ho' => ⟨?_, (ho.2 o ho').2.2⟩) (by omega)
  simpa [Lit.wf, IntKind.min, IntKind.max, IntKind.signed, IntKind.bits] using (ho.2 o ho').2.1
end Go.Proofs.Ytjlohahknngmmaa
