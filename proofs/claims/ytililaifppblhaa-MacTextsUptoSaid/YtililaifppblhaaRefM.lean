/- Walk: the document's Mac. -/
import Derived.Test.YtililaifppblhaaExtM
import Derived.Outline
namespace Go.Proofs.Ytililaifppblhaa.Sha
open Go Go.RowKit Go.Proofs.Ytililaifppblhaa Go.Proofs.YtililaifppblhaaW.PrintWords
set_option linter.unusedVariables false
set_option linter.unusedSimpArgs false

/-- Two slices of bytes of one's own, apart. -/
structure P2 (w0 : World) (v1 v2 : Value) (l1 l2 : List UInt8) (w : World) : Prop where
  o1 : OwnG w w0.heap.size 5 .u8 v1 (nb l1)
  o2 : OwnG w w0.heap.size 5 .u8 v2 (nb l2)
  ne : ∀ g, v1.ownBlock = some g → v2.ownBlock ≠ some g
  be : Below w0.heap.size w0 w
theorem P2.below {w0 : World} {v1 v2 : Value} {l1 l2 : List UInt8} {w w1 : World} (h : P2 w0 v1 v2 l1 l2 w) (hb : Below w.heap.size w w1) : P2 w0 v1 v2 l1 l2 w1 :=
  ⟨h.o1.kept fun g hg => hb.block g (h.o1.lt g hg).2, h.o2.kept fun g hg => hb.block g (h.o2.lt g hg).2, h.ne, h.be.trans (hb.mono h.be.size)⟩
theorem P2.alloc {w0 : World} {v1 v2 : Value} {l1 l2 : List UInt8} {w : World} (h : P2 w0 v1 v2 l1 l2 w) (o : Obj) : P2 w0 v1 v2 l1 l2 (w.alloc o) := h.below ((Below.refl _ _).alloc (Nat.le_refl _) _)
theorem P2.drew {w0 : World} {v1 v2 : Value} {l1 l2 : List UInt8} {w : World} (h : P2 w0 v1 v2 l1 l2 w) : P2 w0 v1 v2 l1 l2 w.drew := h.below (Below.refl _ _).drew
theorem P2.drewN {w0 : World} {v1 v2 : Value} {l1 l2 : List UInt8} {w : World} (h : P2 w0 v1 v2 l1 l2 w) (n : Nat) : P2 w0 v1 v2 l1 l2 (w.drewN n) := h.below (pw_below_drewN (Below.refl _ _) n)
theorem P2.app1 {w0 : World} {v1 v1' v2 : Value} {l1 l2 m : List UInt8} {w w1 : World} (h : P2 w0 v1 v2 l1 l2 w) (ho : OwnG w1 w0.heap.size 5 .u8 v1' (nb l1 ++ nb m)) (hg : w.grownBy w1 v1.ownBlock) (ha : v1'.ownBlock = v1.ownBlock ∨ v1'.ownBlock = some w.heap.size) : P2 w0 v1' v2 (l1 ++ m) l2 w1 := by
  refine ⟨by unfold nb at *; rw [List.map_append]; exact ho, h.o2.kept fun g hg2 => hg.block g (h.o2.lt g hg2).2 (fun e => h.ne g e.symm hg2), fun g hg2 hg3 => ?_, h.be.grown hg h.be.size (fun k hk => (h.o1.lt k hk).1)⟩
  rcases ha with ha | ha
  · exact h.ne g (ha ▸ hg2) hg3
  · rw [ha] at hg2
    injection hg2 with hg2
    have := (h.o2.lt g hg3).2
    omega
theorem P2.app1q {w0 : World} {v1 v1' v2 : Value} {l1 l2 : List UInt8} {w w1 : World} {q : Int} {y : UInt8} {k : Nat} (h : P2 w0 v1 v2 l1 l2 w) (ho : OwnG w1 w0.heap.size 5 .u8 v1' (nb l1 ++ [q])) (hg : w.grownBy w1 v1.ownBlock) (ha : v1'.ownBlock = v1.ownBlock ∨ v1'.ownBlock = some k) (hk : k = w.heap.size) (hq : q = (y.toNat : Int)) : P2 w0 v1' v2 (l1 ++ [y]) l2 w1 := by
  subst hk hq
  exact h.app1 (m := [y]) ho hg ha
theorem P2.swap {w0 : World} {v1 v2 : Value} {l1 l2 : List UInt8} {w : World} (h : P2 w0 v1 v2 l1 l2 w) : P2 w0 v2 v1 l2 l1 w := ⟨h.o2, h.o1, fun g h1 h2 => h.ne g h2 h1, h.be⟩
theorem P2.nil (w0 w : World) (hb : Below w0.heap.size w0 w) : P2 w0 (.slice none 0 0) (.slice none 0 0) [] [] w := ⟨ownG_nil _ _ _ _, ownG_nil _ _ _ _, fun g h => by simp [Value.ownBlock] at h, hb⟩
theorem lit1 (w : World) (q : Int) : ReadsInt (w.alloc (.cells #[.int .u8 q] 5)) .u8 (some ⟨w.heap.size, 0, none⟩) 1 [q] := by
  refine ⟨rfl, by decide, fun _ => ⟨_, rfl, fun j hj => ?_⟩⟩
  rw [add_plain, cell_of_row _ _ _ _ _ _ (heap_alloc_new _ _)]
  obtain rfl : j = 0 := by omega
  rfl
def keyOf (key : ByteArray) : ByteArray := if key.size ≤ 64 then key else sumT key
def macT (key text : ByteArray) : ByteArray := sumT (⟨(turnedL (keyOf key).data.toList 92).toArray⟩ ++ sumT (⟨(turnedL (keyOf key).data.toList 54).toArray⟩ ++ text))
def tk (K : List UInt8) (c : UInt8) (i : Nat) : List UInt8 := ((key64 K).take i).map (· ^^^ c)
theorem tk_len (K : List UInt8) (c : UInt8) (i : Nat) (h : K.length ≤ 64) (hi : i ≤ 64) : (nb (tk K c i)).length = i := by
  unfold tk
  rw [nb_len, List.length_map, List.length_take, key64_len K h]; omega
theorem tk_snoc (K : List UInt8) (c x : UInt8) (i : Nat) (h : K.length ≤ 64) (hi : i < 64) (hx : (key64 K).getD i 0 = x) : tk K c (i + 1) = tk K c i ++ [x ^^^ c] := by
  unfold tk
  rw [List.take_succ_eq_append_getElem (by rw [key64_len K h]; omega), List.map_append, ← hx, List.getD_eq_getElem?_getD, List.getElem?_eq_getElem (by rw [key64_len K h]; omega)]
  rfl
theorem tk_full (K : List UInt8) (c : UInt8) (h : K.length ≤ 64) : tk K c 64 = turnedL K c := by
  unfold tk turnedL
  rw [List.take_of_length_le (by rw [key64_len K h]; omega)]
theorem nb1 (x : UInt8) (q : Int) (h : q = (x.toNat : Int)) : [q] = nb [x] := by rw [h]; rfl
theorem key64_at (K : ByteArray) (i : Nat) (h : i < K.size) : (key64 K.data.toList).getD i 0 = K[i] := by
  unfold key64
  have e : K.data.toList.length = K.size := Array.length_toList
  rw [List.getD_eq_getElem?_getD, List.getElem?_append_left (by omega), Array.getElem?_toList, Array.getElem?_eq_getElem (show i < K.data.size from h)]
  rfl
theorem key64_over (K : ByteArray) (i : Nat) (h : ¬ i < K.size) : (key64 K.data.toList).getD i 0 = 0 := by
  unfold key64
  have e : K.data.toList.length = K.size := Array.length_toList
  rw [List.getD_eq_getElem?_getD, List.getElem?_append_right (by omega), List.getElem?_replicate]
  split <;> rfl
theorem ref_sum_t (s : ByteArray) (w : World) (hs : s.size ≤ 140737488354900) : Calls Try.prog 13 #[.string s] w fun e w' => e = .returned (.string (sumT s)) ∧ Below w.heap.size w w' := ref_sum_any s w hs
set_option maxHeartbeats 2000000 in
set_option maxRecDepth 100000 in
theorem ref_mac_any (key text : ByteArray) (w : World) (hk : key.size ≤ 140737488354900) (ht : text.size ≤ 140737488354800) :
    Calls Try.prog 20 #[.string key, .string text] w fun e w' => e = .returned (.string (macT key text)) ∧ Below w.heap.size w w' := by
  have Hk := Aside0.mk hk
  have Ht := Aside0.mk ht
  have hks : key.size ≤ 9223372036854775807 := by omega
  clear hk ht
  rcases Nat.lt_or_ge 64 key.size with hle | hle
  have hle2 : (64 : Int) < (key.size : Int) := by omega
  have hK : keyOf key = sumT key := by unfold keyOf; rw [if_neg (by omega)]
  have HK := Aside0.mk hK
  clear hK
  go_enter Try.func20, Try.ntmps20
  go_wp2_with fail
  refine (ref_sum_any key w Hk.out).mono ?_
  rintro e1 w1 ⟨rfl, hb⟩
  have HB := Aside0.mk hb
  clear hb
  go_upto_region 4 with fail
  have hle0 := sumT_size key
  have hle : (sumT key).size ≤ 64 := by omega
  clear hle0
  have hKe : (⟨(sumV key.data.toList).toArray⟩ : ByteArray) = sumT key := rfl
  rw [hKe]
  clear hKe
  generalize sumT key = K at *
  have HM := Aside0.mk (show macT key text = sumT (⟨(turnedL K.data.toList 92).toArray⟩ ++ sumT (⟨(turnedL K.data.toList 54).toArray⟩ ++ text)) by unfold macT; rw [HK.out])
  rotate_left
  have hle2 : (key.size : Int) ≤ 64 := by omega
  have hK : keyOf key = key := by unfold keyOf; rw [if_pos hle]
  have HK := Aside0.mk hK
  have HB := Aside0.mk (Below.refl w.heap.size w)
  clear hK
  go_enter Try.func20, Try.ntmps20
  go_upto_region 4 with fail
  obtain ⟨K, hKe⟩ : ∃ K, K = key := ⟨_, rfl⟩
  subst hKe
  have HM := Aside0.mk (show macT K text = sumT (⟨(turnedL K.data.toList 92).toArray⟩ ++ sumT (⟨(turnedL K.data.toList 54).toArray⟩ ++ text)) by unfold macT; rw [HK.out])
  all_goals
    have HP := Aside0.mk (P2.nil w _ HB.out)
    have hkl : K.data.toList.length ≤ 64 := by rw [Array.length_toList]; exact hle
    have Hkl := Aside0.mk hkl
    have hks : K.size ≤ 9223372036854775807 := by omega
    clear hle2 HB hkl
    go_wp2
    go_loopw [5, 6, 7] (fun iv ov nv wr => ∃ i : Nat, i ≤ 64 ∧ nv = .int .i64 i ∧ (∃ a1 c1 a2 c2, iv = .slice a1 i c1 ∧ ov = .slice a2 i c2) ∧ Aside0 (P2 w iv ov (tk K.data.toList 54 i) (tk K.data.toList 92 i) wr)) (fun _ _ nv _ => 64 - (intOf nv).toNat)
    case atStart => exact ⟨0, Nat.zero_le _, rfl, ⟨_, _, _, _, rfl, rfl⟩, HP⟩
    case round =>
      clear HP
      obtain ⟨i, hi, rfl, ⟨a1, c1, a2, c2, rfl, rfl⟩, HP⟩ := hrel
      by_cases hlt : i < 64
      · obtain ⟨x, hx⟩ : ∃ x, (key64 K.data.toList).getD i 0 = x := ⟨_, rfl⟩
        have s1 := tk_snoc _ 54 x i Hkl.out hlt hx
        have s2 := tk_snoc _ 92 x i Hkl.out hlt hx
        have x1 := xor8 x 54
        have x2 := xor8 x 92
        rw [show (((54 : UInt8).toNat : Nat) : Int) = 54 from rfl] at x1
        rw [show (((92 : UInt8).toNat : Nat) : Int) = 92 from rfl] at x2
        obtain ⟨y1, hy1⟩ : ∃ y, x ^^^ 54 = y := ⟨_, rfl⟩
        obtain ⟨y2, hy2⟩ : ∃ y, x ^^^ 92 = y := ⟨_, rfl⟩
        rw [hy1] at s1 x1
        rw [hy2] at s2 x2
        have e1 := tk_len K.data.toList 54 i Hkl.out hi
        have e2 := tk_len K.data.toList 92 i Hkl.out hi
        have S1 := Aside0.mk s1
        have S2 := Aside0.mk s2
        have E1 := Aside0.mk e1
        have E2 := Aside0.mk e2
        have Hy1 := Aside0.mk hy1
        have Hy2 := Aside0.mk hy2
        clear s1 s2 e1 e2 hy1 hy2
        have i1 : (0 : Int) ≤ (i : Int) := by omega
        have i2 : (i : Int) < 64 := by omega
        rcases Nat.lt_or_ge i K.size with hin | hin
        have hx2 := key64_at K i hin
        rw [hx] at hx2
        have hx3 : (K[i].toNat : Int) = (x.toNat : Int) := by rw [hx2]
        have hini : (i : Int) < (K.size : Int) := by omega
        clear hx hx2
        go_upto_region 10 with fail
        rotate_left
        have hx2 := key64_over K i (by omega)
        rw [hx] at hx2
        subst hx2
        have hini : (K.size : Int) ≤ (i : Int) := by omega
        have hinn : ¬ ((i : Int) < (K.size : Int)) := by omega
        clear hx x1 x2
        go_upto_region 10 with fail
        all_goals
          go_wp2_with ((with_reducible refine gate_builtin (b := .append) (xs := #[.tmp 25, .tmp 28]) rfl ?_); at_builtin; refine wpList_append_G w.heap.size rfl (.tmp 25) (.tmp 28) 28 5 .u8 rfl Try.underlying28 infoByteS _ (nb (tk K.data.toList 54 i)) _ _ _ _ rfl rfl (HP.out.alloc _).o1 (lit1 _ _) (HP.out.alloc _).be.size (by rw [E1.out]; omega) ?_)
          intro v1 w1 ho hg ha
          obtain ⟨ad1, cp1, hv1⟩ := ownG_shape ho
          rw [List.length_append, E1.out, List.length_singleton] at hv1
          have HP1 := Aside0.mk ((HP.out.alloc _).app1q (y := y1) ho hg ha (by simp) (by first | rfl | (rw [← Hy1.out]; rfl)))
          subst hv1
          clear ho hg ha HP
          go_wp2_with ((with_reducible refine gate_builtin (b := .append) (xs := #[.tmp 30, .tmp 33]) rfl ?_); at_builtin; refine wpList_append_G w.heap.size rfl (.tmp 30) (.tmp 33) 28 5 .u8 rfl Try.underlying28 infoByteS _ (nb (tk K.data.toList 92 i)) _ _ _ _ rfl rfl (HP1.out.alloc _).o2 (lit1 _ _) (HP1.out.alloc _).be.size (by rw [E2.out]; omega) ?_)
          intro v2 w2 ho hg ha
          obtain ⟨ad2, cp2, hv2⟩ := ownG_shape ho
          rw [List.length_append, E2.out, List.length_singleton] at hv2
          have HP2 := Aside0.mk ((HP1.out.alloc _).swap.app1q (y := y2) ho hg ha (by simp) (by first | rfl | (rw [← Hy2.out]; rfl))).swap
          subst hv2
          clear ho hg ha HP1
          go_wp2
          go_roundw
          case rel =>
            refine ⟨i + 1, by omega, by go_num, ⟨_, _, _, _, rfl, rfl⟩, ?_⟩
            rw [S1.out, S2.out]
            exact HP2
          case measure => simp [intOf]; omega
      · obtain rfl : i = 64 := by omega
        rw [tk_full _ _ Hkl.out, tk_full _ _ Hkl.out] at HP
        obtain ⟨I1, hI⟩ : ∃ I : ByteArray, (⟨(turnedL K.data.toList 54).toArray⟩ : ByteArray) = I := ⟨_, rfl⟩
        obtain ⟨O1, hO⟩ : ∃ I : ByteArray, (⟨(turnedL K.data.toList 92).toArray⟩ : ByteArray) = I := ⟨_, rfl⟩
        have kt : ∀ wx, P2 w (.slice a1 64 c1) (.slice a2 64 c2) (turnedL K.data.toList 54) (turnedL K.data.toList 92) wx → (convert 28 9 (.slice a1 64 c1)).run Try.prog wx = .ok (.string I1) wx ∧ (convert 28 9 (.slice a2 64 c2)).run Try.prog wx = .ok (.string O1) wx := fun wx h => by
          rw [← hI, ← hO]
          exact ⟨ownG_text (n := 64) h.o1, ownG_text (n := 64) h.o2⟩
        have Kt := Aside0.mk kt
        have kd := kt _ HP.out.drew
        have k1 := kd.1
        have k2 := kd.2
        have hIs : I1.size = 64 := by
          rw [← hI]
          show (turnedL K.data.toList 54).toArray.size = 64
          rw [List.size_toArray]
          unfold turnedL
          rw [List.length_map, key64_len _ Hkl.out]
        have hOs : O1.size = 64 := by
          rw [← hO]
          show (turnedL K.data.toList 92).toArray.size = 64
          rw [List.size_toArray]
          unfold turnedL
          rw [List.length_map, key64_len _ Hkl.out]
        have HA := Aside0.mk (show (I1 ++ text).size ≤ 140737488354900 by rw [ByteArray.size_append]; have := Ht.out; omega)
        have HO2 := Aside0.mk (show (O1 ++ sumT (I1 ++ text)).size ≤ 140737488354900 by rw [ByteArray.size_append, sumT_size]; omega)
        have q1 : (9223372036854775807 < I1.size + text.size) = False := eq_false (by have := Ht.out; omega)
        have q2 : (9223372036854775807 < O1.size + (sumT (I1 ++ text)).size) = False := eq_false (by rw [sumT_size]; omega)
        have Hfin := Aside0.mk (HM.out.trans (by rw [hI, hO] : _ = sumT (O1 ++ sumT (I1 ++ text))))
        clear kt kd hI hO hIs hOs hi hlt
        go_upto_region 12 with fail
        go_region_with (first
          | (go_at_call 13; (with_reducible refine (ref_sum_t (I1 ++ text) _ HA.out).mono ?_); rintro e1 w3 ⟨rfl, hb⟩; have n0_ : P2 w _ _ _ _ w3 := (by first | exact HP.out.below hb | exact HP.out.drew.below hb | exact (HP.out.drewN _).below hb); clear HP hb k1 k2; have HP := Aside0.mk n0_; clear n0_; have kd := Kt.out _ HP.out; have k1 := kd.1; have k2 := kd.2; clear kd)
          | (go_at_call 13; (with_reducible refine (ref_sum_t (O1 ++ sumT (I1 ++ text)) _ HO2.out).mono ?_); rintro e1 w4 ⟨rfl, hb⟩; have HB := Aside0.mk (HP.out.be.trans (hb.mono HP.out.be.size)); clear hb))
        all_goals
          go_wp2
          go_ret
          exact ⟨by rw [Hfin.out]; rfl, HB.out⟩
end Go.Proofs.Ytililaifppblhaa.Sha
