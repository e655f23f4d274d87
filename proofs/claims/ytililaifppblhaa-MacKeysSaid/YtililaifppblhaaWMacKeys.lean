/- Walk: MacKeys: a short key, and the same with noughts behind it, make one proof; so do a long one and its sum. -/
import Derived.Test.YtililaifppblhaaMacQ
import Derived.Test.YtililaifppblhaaRefM
import Derived.DataShut
namespace Go.Proofs.Ytililaifppblhaa.Sha
open Go Go.RowKit Go.Proofs.Ytililaifppblhaa Go.Proofs.YtililaifppblhaaW.PrintWords
set_option linter.unusedVariables false
set_option linter.unusedSimpArgs false

theorem P2.of_bytes (w wx : World) (s : ByteArray) (hb : Below w.heap.size w wx) (hs : s.size ≤ 140737488355328) : P2 w (.slice (some ⟨wx.heap.size, 0, none⟩) s.size (grownCap wx s.size 0 5)) (.slice none 0 0) s.data.toList [] (Lib.bytesWorld wx 5 s) := by
  have ho := ownG_bytes wx 5 s hs
  refine ⟨?_, ownG_nil _ _ _ _, fun g _ h => by simp [Value.ownBlock] at h, bytes_below hb hb.size _ _⟩
  rcases ho with h | ⟨g, cap, cur, fz, h1, h2, rest⟩
  · exact .inl h
  · exact .inr ⟨g, cap, cur, fz, h1, Nat.le_trans hb.size h2, rest⟩
theorem macT_long (key text : ByteArray) (h : 64 < key.size) : macT (sumT key) text = macT key text := by
  have e : keyOf (sumT key) = keyOf key := by
    unfold keyOf
    rw [if_pos (by rw [sumT_size]; omega), if_neg (by omega)]
  unfold macT
  rw [e]
theorem key64_zeros (K : List UInt8) (m : Nat) (h : K.length + m ≤ 64) : key64 (K ++ List.replicate m 0) = key64 K := by
  unfold key64
  rw [List.append_assoc]
  congr 1
  rw [List.length_append, List.length_replicate, List.replicate_append_replicate]
  congr 1
  omega
theorem macT_zeros (key text T : ByteArray) (m : Nat) (hT : T.data.toList = key.data.toList ++ List.replicate m 0) (h : key.size + m ≤ 64) : macT T text = macT key text := by
  have e0 : T.size = key.size + m := by
    have := congrArg List.length hT
    rw [List.length_append, List.length_replicate, Array.length_toList, Array.length_toList] at this
    exact this
  have e : ∀ c, turnedL (keyOf T).data.toList c = turnedL (keyOf key).data.toList c := fun c => by
    unfold keyOf turnedL
    rw [if_pos (by omega), if_pos (by omega), hT, key64_zeros _ _ (by rw [Array.length_toList]; exact h)]
  unfold macT
  rw [e, e]
theorem mac_any (key text : ByteArray) (w : World) (hk : key.size ≤ 1152921504606846976) (ht : text.size ≤ 1152921504606846000) : Calls Try.prog 19 #[.string key, .string text] w fun e w' => e = .returned (.string (macT key text)) ∧ Below w.heap.size w w' :=
  PM.mac_Mac.calls 1 key text _ w (Pure.macF key text hk ht 0)
set_option maxHeartbeats 2000000 in
set_option maxRecDepth 100000 in
theorem keys_walk (key text : ByteArray) (n : Int) (w : World) (hk : key.size ≤ 140737488351232) (ht : text.size ≤ 140737488351232) (hn : (Lit.int .i64 n).wf = true) :
    Calls Try.prog 6 #[.string key, .string text, .int .i64 n] w fun e w' => e = .returned (.bool true) ∧ Below w.heap.size w w' := by
  have Hk := Aside0.mk hk
  have Ht := Aside0.mk ht
  have hks : key.size ≤ 9223372036854775807 := by omega
  have hM : (macT key text).size = 32 := sumT_size _
  obtain ⟨M, hMe⟩ : ∃ M, macT key text = M := ⟨_, rfl⟩
  rw [hMe] at hM
  have HM := Aside0.mk hMe
  have HMs := Aside0.mk hM
  have HA := Aside0.mk (fun wx => mac_any key text wx (by omega) (by omega))
  rw [hMe] at HA
  have hn1 : n ≤ 9223372036854775807 := ((Lit.wf_int_iff .i64 n).1 hn).2
  clear hk ht hM hMe hn
  rcases Nat.lt_or_ge 64 key.size with hle | hle
  · have hle2 : (64 : Int) < (key.size : Int) := by omega
    have HA2 := Aside0.mk (fun wx => mac_any (sumT key) text wx (by rw [sumT_size]; omega) (by have := Ht.out; omega))
    rw [macT_long key text hle, HM.out] at HA2
    go_enter Try.func6, Try.ntmps6
    go_wp2_with fail
    refine (awake_any _).mono ?_
    rintro e1 w1 ⟨rfl, hb⟩
    have HB1 := Aside0.mk hb
    clear hb
    go_wp2_with fail
    refine (HA.out _).mono ?_
    rintro e1 w2 ⟨rfl, hb⟩
    have HB2 := Aside0.mk (HB1.out.trans (hb.mono HB1.out.size))
    clear hb HB1
    go_wp2_with fail
    refine (mac_sum_any key _ (by have := Hk.out; omega)).mono ?_
    rw [show (⟨(sumV key.data.toList).toArray⟩ : ByteArray) = sumT key from rfl]
    rintro e1 w3 ⟨rfl, hb⟩
    have HB3 := Aside0.mk (HB2.out.trans (hb.mono HB2.out.size))
    clear hb HB2
    go_wp2_with fail
    refine (HA2.out _).mono ?_
    rintro e1 w4 ⟨rfl, hb⟩
    have HB4 := Aside0.mk (HB3.out.trans (hb.mono HB3.out.size))
    clear hb HB3
    go_wp2
    go_ret
    exact ⟨rfl, HB4.out⟩
  · have hle2 : (key.size : Int) ≤ 64 := by omega
    have kb := fun wx => print_bytes (P := Try.prog) 9 28 5 Try.underlying9 Try.underlying28 Try.underlying5 key wx
    go_enter Try.func6, Try.ntmps6
    go_wp2_with fail
    refine (awake_any _).mono ?_
    rintro e1 w1 ⟨rfl, hb⟩
    have HP := Aside0.mk (P2.of_bytes w w1 key hb (by have := Hk.out; omega))
    clear hb
    go_wp2
    go_loopw [7, 8] (fun bv iv wr => ∃ i : Nat, key.size + i ≤ 64 ∧ iv = .int .i64 i ∧ (∃ a1 c1, bv = .slice a1 (key.size + i) c1) ∧ Aside0 (P2 w bv (.slice none 0 0) (key.data.toList ++ List.replicate i 0) [] wr)) (fun _ iv _ => 64 - (intOf iv).toNat)
    case atStart => exact ⟨0, by omega, rfl, ⟨_, _, rfl⟩, ⟨by simpa using HP.out⟩⟩
    case round =>
      clear HP kb
      obtain ⟨i, hi, rfl, ⟨a1, c1, rfl⟩, HP⟩ := hrel
      by_cases hlt : (i : Int) < n ∧ key.size + i < 64
      · obtain ⟨hlt1, hlt2⟩ := hlt
        have e1 : (nb (key.data.toList ++ List.replicate i 0)).length = key.size + i := by
          rw [nb_len, List.length_append, List.length_replicate, Array.length_toList]; rfl
        have E1 := Aside0.mk e1
        have hl3 : (key.size : Int) + (i : Int) < 64 := by omega
        clear e1
        go_wp2_with ((with_reducible refine gate_builtin (b := .append) (xs := #[.tmp 34, .tmp 35]) rfl ?_); at_builtin; refine wpList_append_G w.heap.size rfl (.tmp 34) (.tmp 35) 28 5 .u8 rfl Try.underlying28 infoByteS _ (nb (key.data.toList ++ List.replicate i 0)) _ _ _ _ rfl rfl (HP.out.alloc _).o1 (lit1 _ _) (HP.out.alloc _).be.size (by rw [E1.out]; omega) ?_)
        intro v1 w1 ho hg ha
        obtain ⟨ad1, cp1, hv1⟩ := ownG_shape ho
        rw [List.length_append, E1.out, List.length_singleton] at hv1
        have HP1 := Aside0.mk ((HP.out.alloc _).app1q (y := 0) ho hg ha (by simp) rfl)
        rw [List.append_assoc, show List.replicate i (0 : UInt8) ++ [0] = List.replicate (i + 1) 0 from (List.replicate_succ').symm] at HP1
        subst hv1
        clear ho hg ha HP
        go_wp2
        go_roundw
        case rel => exact ⟨i + 1, by omega, by go_num, ⟨_, _, rfl⟩, HP1⟩
        case measure => simp [intOf]; omega
      · have e1 : (nb (key.data.toList ++ List.replicate i 0)).length = key.size + i := by
          rw [nb_len, List.length_append, List.length_replicate, Array.length_toList]; rfl
        obtain ⟨T, hT⟩ : ∃ T : ByteArray, (⟨(key.data.toList ++ List.replicate i 0).toArray⟩ : ByteArray) = T := ⟨_, rfl⟩
        have kt : ∀ wx, P2 w (.slice a1 (key.size + i) c1) (.slice none 0 0) (key.data.toList ++ List.replicate i 0) [] wx → (convert 28 9 (.slice a1 (key.size + i) c1)).run Try.prog wx = .ok (.string T) wx := fun wx h => by
          rw [← hT]
          exact ownG_text (n := key.size + i) h.o1
        have Kt := Aside0.mk kt
        have k1 := kt _ HP.out.drew
        have hTd : T.data.toList = key.data.toList ++ List.replicate i 0 := by rw [← hT]
        have hTs : T.size ≤ 64 := by
          have := congrArg List.length hTd
          rw [List.length_append, List.length_replicate, Array.length_toList, Array.length_toList] at this
          have e1 : T.data.size = T.size := rfl
          have e2 : key.data.size = key.size := rfl
          omega
        have HA2 := Aside0.mk (fun wx => mac_any T text wx (by omega) (by have := Ht.out; omega))
        rw [macT_zeros key text T i hTd (by omega), HM.out] at HA2
        have hM := HMs.out
        clear kt hT hTd hTs e1
        rcases Int.lt_or_le (i : Int) n with hin | hin
        have hl3 : ¬ ((key.size : Int) + (i : Int) < 64) := by omega
        have hl4 : (64 : Int) ≤ (key.size : Int) + (i : Int) := by omega
        clear hlt
        go_upto_region 10 with fail
        rotate_left
        have hl3 : ¬ ((i : Int) < n) := by omega
        have hl5 : decide ((i : Int) < n) = false := decide_eq_false hl3
        clear hlt
        go_upto_region 10 with fail
        all_goals
          go_region_with (first
            | (go_at_call 19; (with_reducible refine (HA.out _).mono ?_); rintro e1 w3 ⟨rfl, hb⟩; have n0_ : P2 w _ _ _ _ w3 := (by first | exact HP.out.below hb | exact HP.out.drew.below hb | exact (HP.out.drewN _).below hb); clear HP hb k1; have HP := Aside0.mk n0_; clear n0_; have k1 := Kt.out _ HP.out)
            | (go_at_call 19; (with_reducible refine (HA2.out _).mono ?_); rintro e1 w3 ⟨rfl, hb⟩; have n0_ : P2 w _ _ _ _ w3 := (by first | exact HP.out.below hb | exact HP.out.drew.below hb | exact (HP.out.drewN _).below hb); clear HP hb k1; have HP := Aside0.mk n0_; clear n0_; have k1 := Kt.out _ HP.out))
        all_goals
          go_wp2
          go_ret
          exact ⟨rfl, HP.out.be⟩
end Go.Proofs.Ytililaifppblhaa.Sha
