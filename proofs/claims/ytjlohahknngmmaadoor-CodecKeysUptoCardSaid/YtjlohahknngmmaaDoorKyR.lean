/- Walk of strings.ReplaceAll: a 255 behind every byte 0. -/
import Derived.Test.YtjlohahknngmmaaDoorKyA
import Derived.Deep.LoopGhost
namespace Go.Proofs.YtjlohahknngmmaaDoor.Ky
open Go Go.RowKit Go.Proofs.YtjlohahknngmmaaDoor Go.Proofs.YtjlohahknngmmaaDoorW.PrintWords
set_option linter.unusedVariables false
set_option linter.unusedSimpArgs false

theorem count_split (a b : List UInt8) (h : (0 : UInt8) ∉ a) : (a ++ 0 :: b).count 0 = b.count 0 + 1 := by
  rw [List.count_append, List.count_cons_self, List.count_eq_zero.2 h]; omega
set_option maxHeartbeats 4000000 in
set_option maxRecDepth 100000 in
theorem replace_any (s : ByteArray) (w : World) (hs : s.size ≤ 70368744177664) :
    Calls Tryd.prog 41 #[.string s, .string ⟨#[0]⟩, .string ⟨#[0, 255]⟩, .int .i64 (-1)] w fun e w' => e = .returned (.string ⟨(esc s.data.toList).toArray⟩) ∧ Below w.heap.size w w' := by
  have hC := Tryd.strings_Count_one s 0
  have hle : s.data.toList.count 0 ≤ s.size := by rw [← sz_len]; exact List.count_le_length
  unfold Lib.countByte at hC
  obtain ⟨K, hK⟩ : ∃ K, s.data.toList.count 0 = K := ⟨_, rfl⟩
  rw [hK] at hC hle
  have HC := Aside0.mk hC
  have HK := Aside0.mk hK
  clear hC hK
  have hbeq : ((⟨#[0]⟩ : ByteArray).toList == (⟨#[0, 255]⟩ : ByteArray).toList) = false := by decide +kernel
  by_cases h0 : K = 0
  · subst h0
    have HE := Aside0.mk (show (⟨(esc s.data.toList).toArray⟩ : ByteArray) = s by rw [esc_none _ (List.count_eq_zero.1 HK.out)])
    go_enter Tryd.func41, Tryd.ntmps41
    go_wp2_with (go_at_call 46; refine (HC.out _).mono ?_; rintro e w1 ⟨rfl, rfl⟩)
    go_ret
    rw [HE.out]
    exact ⟨rfl, Below.refl _ _⟩
  · have hcz : ((K : Int) == 0) = false := beq_eq_false_iff_ne.2 (by omega)
    have hod : decide (0 < (1 : Int)) = true := rfl
    clear h0
    go_enter Tryd.func41, Tryd.ntmps41
    go_wp2_with (go_at_call 46; refine (HC.out _).mono ?_; rintro e w1 ⟨rfl, rfl⟩)
    rw [show (s.size : Int) + (K : Int) = ((s.size + K : Nat) : Int) from rfl]
    refine (Tryd.Builder_Grow_fresh w1.heap.size w1.heap.size (s.size + K) _ (Nat.le_refl _) (heap_alloc_new w1 _) (by simp) (by omega)).mono ?_
    rintro e w2 ⟨rfl, hb0, hb1⟩
    have HBl := Aside0.mk (show BldF w1.heap.size w1.heap.size (Lib.byteCells []) w2 from Lib.IsBuilderF.of (Or.inr hb0))
    have HBe := Aside0.mk (((Below.refl w1.heap.size w1).alloc (Nat.le_refl _) _).trans hb1)
    clear hb0 hb1
    go_wp2_with fail
    go_loopw [11, 53] (fun sv iv wr => ∃ (i start : Nat) (acc : List UInt8), iv = .int .i64 i ∧ sv = .int .i64 start ∧ i ≤ K ∧ start ≤ s.size ∧ acc.length + 2 * (s.size - start) ≤ 2 * s.size ∧ Aside0 (i + (s.data.toList.drop start).count 0 = K) ∧ Aside0 (esc s.data.toList = acc ++ esc (s.data.toList.drop start)) ∧ Aside0 (BldF w1.heap.size w1.heap.size (Lib.byteCells acc) wr) ∧ Aside0 (Below w1.heap.size w1 wr)) (fun _ iv _ => K - (intOf iv).toNat)
    case atStart => exact ⟨0, 0, [], rfl, rfl, Nat.zero_le _, Nat.zero_le _, by simp, ⟨by simpa using HK.out⟩, ⟨rfl⟩, HBl, HBe⟩
    case round =>
      clear HBl HBe
      obtain ⟨i, st, acc, rfl, rfl, hi, hst, hac, HI, HE, HBl, HBe⟩ := hrel
      have c1 : (0 : Int) ≤ (st : Int) := by omega
      have c2 : (st : Int) ≤ (s.size : Int) := by omega
      have e1 : (s.extract st s.size).data.toList = s.data.toList.drop st := by rw [ext_data, ← sz_len, List.take_length]
      by_cases hlt : i < K
      · obtain ⟨a, b, hab, ha, hix⟩ := ix_split (s.data.toList.drop st) (by
          rcases Classical.em ((0 : UInt8) ∈ s.data.toList.drop st) with h | h
          · exact h
          · have := HI.out; rw [List.count_eq_zero.2 h] at this; omega)
        have hlen : s.size - st = a.length + 1 + b.length := by
          have h := congrArg List.length hab
          rw [List.length_drop, sz_len] at h
          rw [h]; simp; omega
        have hj := Tryd.strings_Index_one (s.extract st s.size) 0
        rw [e1, hix] at hj
        obtain ⟨n, hn⟩ : ∃ n, a.length = n := ⟨_, rfl⟩
        rw [hn] at hj hlen
        have e2 : (s.extract st (st + n)).data.toList = a := by
          rw [ext_data, List.drop_take, Nat.add_sub_cancel_left, hab, ← hn, List.take_append_of_le_length (Nat.le_refl _), List.take_length]
        have e3 : s.data.toList.drop (st + n + 1) = b := by
          rw [Nat.add_assoc, ← List.drop_drop, hab, ← hn, ← List.drop_drop, List.drop_append_of_le_length (Nat.le_refl _), List.drop_length]; rfl
        have HJ := Aside0.mk hj
        have H2 := Aside0.mk e2
        have HN := Aside0.mk hn
        have HI2 := Aside0.mk (show i + 1 + (s.data.toList.drop (st + n + 1)).count 0 = K by
          have h := HI.out
          rw [hab, count_split a b ha] at h
          rw [e3]; omega)
        have HE2 := Aside0.mk (show esc s.data.toList = acc ++ a ++ [0, 255] ++ esc (s.data.toList.drop (st + n + 1)) by
          rw [HE.out, hab, e3, esc_append, esc_none a ha, esc_z]; simp)
        have hk : (i : Int) < (K : Int) := by omega
        have c3 : (st : Int) ≤ (st : Int) + (n : Int) := by omega
        have c4 : (st : Int) + (n : Int) ≤ (s.size : Int) := by omega
        have g1 : st + n + 1 ≤ s.size := by omega
        have g2 : acc.length + n + 2 + 2 * (s.size - (st + n + 1)) ≤ 2 * s.size := by omega
        clear hlen hab ha hix hj hn e1 e2 e3
        have HW := Aside0.mk (write_any w1.heap.size w1.heap.size acc (s.extract st (st + n)) wr HBl.out (by rw [ByteArray.size_extract]; omega) HBe.out.size)
        rw [H2.out] at HW
        go_wp2_with (go_at_call 43; refine (HJ.out _).mono ?_; rintro e w3 ⟨rfl, rfl⟩)
        refine HW.out.mono ?_
        rintro e w4 ⟨rfl, hbl2, hbe2⟩
        have HBl2 := Aside0.mk hbl2
        have HBe2 := Aside0.mk (HBe.out.trans hbe2)
        clear hbl2 hbe2
        go_wp2_with fail
        refine (write_any w1.heap.size w1.heap.size (acc ++ a) ⟨#[0, 255]⟩ _ HBl2.out (by show (acc ++ a).length + 2 ≤ _; rw [List.length_append, HN.out]; omega) HBe2.out.size).mono ?_
        rintro e w5 ⟨rfl, hbl3, hbe3⟩
        have HBl3 := Aside0.mk (show BldF w1.heap.size w1.heap.size (Lib.byteCells (acc ++ a ++ [0, 255])) w5 from hbl3)
        have HBe3 := Aside0.mk (HBe2.out.trans hbe3)
        clear hbl3 hbe3
        go_wp2
        go_roundw
        case rel => exact ⟨i + 1, st + n + 1, acc ++ a ++ [0, 255], by go_num, by go_num, by omega, g1, by rw [List.length_append, List.length_append, HN.out]; exact g2, HI2, HE2, HBl3, HBe3⟩
        case measure => simp [intOf]; omega
      · have hfin : acc ++ s.data.toList.drop st = esc s.data.toList := by
          rw [HE.out, esc_none _ (List.count_eq_zero.1 (by have := HI.out; omega))]
        have hk : ¬ (i : Int) < (K : Int) := by omega
        have HF := Aside0.mk hfin
        have HW := Aside0.mk (write_any w1.heap.size w1.heap.size acc (s.extract st s.size) wr HBl.out (by rw [ByteArray.size_extract]; omega) HBe.out.size)
        rw [e1, HF.out] at HW
        clear hfin e1
        go_wp2_with fail
        refine HW.out.mono ?_
        rintro e w4 ⟨rfl, hbl2, hbe2⟩
        have HBl2 := Aside0.mk hbl2
        have HBe2 := Aside0.mk (HBe.out.trans hbe2)
        clear hbl2 hbe2
        go_wp2_with fail
        refine (Tryd.Builder_String_any_f w1.heap.size w1.heap.size _ _ HBl2.out HBe2.out.size).mono ?_
        rintro e w5 ⟨rfl, _, hb5⟩
        have HB5 := Aside0.mk (HBe2.out.trans hb5)
        clear hb5
        go_wp2
        go_ret
        exact ⟨rfl, HB5.out⟩
theorem replaceAll_any (s : ByteArray) (w : World) (hs : s.size ≤ 70368744177664) :
    Calls Tryd.prog 27 #[.string s, .string ⟨#[0]⟩, .string ⟨#[0, 255]⟩] w fun e w' => e = .returned (.string ⟨(esc s.data.toList).toArray⟩) ∧ Below w.heap.size w w' := by
  go_enter Tryd.func27, Tryd.ntmps27
  go_wp2_with (go_at_call 41; refine (replace_any s _ hs).mono ?_)
  rintro e w1 ⟨rfl, hb⟩
  have HB := Aside0.mk hb
  clear hb
  go_wp2
  go_ret
  exact ⟨rfl, HB.out⟩
end Go.Proofs.YtjlohahknngmmaaDoor.Ky
