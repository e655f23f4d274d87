/- Walk: the document's Mac. -/
import Derived.Test.YtehnpmkfgdmmmaaMcC
import Derived.Outline
import Derived.Deep.RegionLaw
import Derived.Test.YtehnpmkfgdmmmaaWWords
import Derived.IntWalk
import Derived.Lib.IndexLaws
namespace Go.Proofs.Ytehnpmkfgdmmmaa.Sha
open Go Go.RowKit Go.Proofs.Ytehnpmkfgdmmmaa Go.Proofs.YtehnpmkfgdmmmaaW.PrintWords
set_option linter.unusedVariables false
set_option linter.unusedSimpArgs false

/-- Two slices of bytes of one's own, apart. -/
structure P2 (w0 : World) (v1 v2 : Value) (l1 l2 : List UInt8) (w : World) : Prop where
  o1 : OwnG w w0.heap.size 5 .u8 v1 (nb l1)
  o2 : OwnG w w0.heap.size 5 .u8 v2 (nb l2)
  ne : ∀ g, v1.ownBlock = some g → v2.ownBlock ≠ some g
  be : Below w0.heap.size w0 w
theorem P2.below {w0 : World} {v1 v2 : Value} {l1 l2 : List UInt8} {w w1 : World} (h : P2 w0 v1 v2 l1 l2 w) (hb : Below w.heap.size w w1) : P2 w0 v1 v2 l1 l2 w1 :=
  ⟨h.o1.kept fun g hg => hb.block g (h.o1.lt g hg).2, h.o2.kept fun g hg => hb.block g (h.o2.lt g hg).2, h.ne, h.be.trans (hb.mono h.be.size)⟩
theorem P2.alloc {w0 : World} {v1 v2 : Value} {l1 l2 : List UInt8} {w : World} (h : P2 w0 v1 v2 l1 l2 w) (o : Obj) : P2 w0 v1 v2 l1 l2 (w.alloc o) := h.below ((Below.refl _ _).alloc (Nat.le_refl _) _)
theorem P2.drew {w0 : World} {v1 v2 : Value} {l1 l2 : List UInt8} {w : World} (h : P2 w0 v1 v2 l1 l2 w) : P2 w0 v1 v2 l1 l2 w.drew := h.below (Below.refl _ _).drew
theorem P2.drewN {w0 : World} {v1 v2 : Value} {l1 l2 : List UInt8} {w : World} (h : P2 w0 v1 v2 l1 l2 w) (n : Nat) : P2 w0 v1 v2 l1 l2 (w.drewN n) := h.below (pw_below_drewN (Below.refl _ _) n)
theorem P2.app1 {w0 : World} {v1 v1' v2 : Value} {l1 l2 m : List UInt8} {w w1 : World} (h : P2 w0 v1 v2 l1 l2 w) (ho : OwnG w1 w0.heap.size 5 .u8 v1' (nb l1 ++ nb m)) (hg : w.grownBy w1 v1.ownBlock) (ha : v1'.ownBlock = v1.ownBlock ∨ v1'.ownBlock = some w.heap.size) : P2 w0 v1' v2 (l1 ++ m) l2 w1 := by
  refine ⟨by unfold nb at *; rw [List.map_append]; exact ho, h.o2.kept fun g hg2 => hg.block g (h.o2.lt g hg2).2 (fun e => h.ne g e.symm hg2), fun g hg2 hg3 => ?_, h.be.grown hg h.be.size (fun k hk => (h.o1.lt k hk).1)⟩
  rcases ha with ha | ha
  · exact h.ne g (ha ▸ hg2) hg3
  · rw [ha] at hg2
    injection hg2 with hg2
    have := (h.o2.lt g hg3).2
    omega
theorem P2.app1q {w0 : World} {v1 v1' v2 : Value} {l1 l2 : List UInt8} {w w1 : World} {q : Int} {y : UInt8} {k : Nat} (h : P2 w0 v1 v2 l1 l2 w) (ho : OwnG w1 w0.heap.size 5 .u8 v1' (nb l1 ++ [q])) (hg : w.grownBy w1 v1.ownBlock) (ha : v1'.ownBlock = v1.ownBlock ∨ v1'.ownBlock = some k) (hk : k = w.heap.size) (hq : q = (y.toNat : Int)) : P2 w0 v1' v2 (l1 ++ [y]) l2 w1 := by
  subst hk hq
  exact h.app1 (m := [y]) ho hg ha
theorem P2.swap {w0 : World} {v1 v2 : Value} {l1 l2 : List UInt8} {w : World} (h : P2 w0 v1 v2 l1 l2 w) : P2 w0 v2 v1 l2 l1 w := ⟨h.o2, h.o1, fun g h1 h2 => h.ne g h2 h1, h.be⟩
theorem P2.nil (w0 w : World) (hb : Below w0.heap.size w0 w) : P2 w0 (.slice none 0 0) (.slice none 0 0) [] [] w := ⟨ownG_nil _ _ _ _, ownG_nil _ _ _ _, fun g h => by simp [Value.ownBlock] at h, hb⟩
theorem lit1 (w : World) (q : Int) : ReadsInt (w.alloc (.cells #[.int .u8 q] 5)) .u8 (some ⟨w.heap.size, 0, none⟩) 1 [q] := by
  refine ⟨rfl, by decide, fun _ => ⟨_, rfl, fun j hj => ?_⟩⟩
  rw [add_plain, cell_of_row _ _ _ _ _ _ (heap_alloc_new _ _)]
  obtain rfl : j = 0 := by omega
  rfl
def keyOf (key : ByteArray) : ByteArray := if key.size ≤ 64 then key else sumT key
def macT (key text : ByteArray) : ByteArray := sumT (⟨(turnedL (keyOf key).data.toList 92).toArray⟩ ++ sumT (⟨(turnedL (keyOf key).data.toList 54).toArray⟩ ++ text))
def tk (K : List UInt8) (c : UInt8) (i : Nat) : List UInt8 := ((key64 K).take i).map (· ^^^ c)
theorem tk_len (K : List UInt8) (c : UInt8) (i : Nat) (h : K.length ≤ 64) (hi : i ≤ 64) : (nb (tk K c i)).length = i := by
  unfold tk
  rw [nb_len, List.length_map, List.length_take, key64_len K h]; omega
theorem tk_snoc (K : List UInt8) (c x : UInt8) (i : Nat) (h : K.length ≤ 64) (hi : i < 64) (hx : (key64 K).getD i 0 = x) : tk K c (i + 1) = tk K c i ++ [x ^^^ c] := by
  unfold tk
  rw [List.take_succ_eq_append_getElem (by rw [key64_len K h]; omega), List.map_append, ← hx, List.getD_eq_getElem?_getD, List.getElem?_eq_getElem (by rw [key64_len K h]; omega)]
  rfl
theorem tk_full (K : List UInt8) (c : UInt8) (h : K.length ≤ 64) : tk K c 64 = turnedL K c := by
  unfold tk turnedL
  rw [List.take_of_length_le (by rw [key64_len K h]; omega)]
theorem nb1 (x : UInt8) (q : Int) (h : q = (x.toNat : Int)) : [q] = nb [x] := by rw [h]; rfl
theorem key64_at (K : ByteArray) (i : Nat) (h : i < K.size) : (key64 K.data.toList).getD i 0 = K[i] := by
  unfold key64
  have e : K.data.toList.length = K.size := Array.length_toList
  rw [List.getD_eq_getElem?_getD, List.getElem?_append_left (by omega), Array.getElem?_toList, Array.getElem?_eq_getElem (show i < K.data.size from h)]
  rfl
theorem key64_over (K : ByteArray) (i : Nat) (h : ¬ i < K.size) : (key64 K.data.toList).getD i 0 = 0 := by
  unfold key64
  have e : K.data.toList.length = K.size := Array.length_toList
  rw [List.getD_eq_getElem?_getD, List.getElem?_append_right (by omega), List.getElem?_replicate]
  split <;> rfl
theorem ref_sum_t (s : ByteArray) (w : World) (hs : s.size ≤ 140737488354900) : Calls Try.prog 48 #[.string s] w fun e w' => e = .returned (.string (sumT s)) ∧ Below w.heap.size w w' := ref_sum_any s w hs
set_option maxHeartbeats 2000000 in
set_option maxRecDepth 100000 in
theorem ref_mac_any (key text : ByteArray) (w : World) (hk : key.size ≤ 140737488354900) (ht : text.size ≤ 140737488354800) :
    Calls Try.prog 28 #[.string key, .string text] w fun e w' => e = .returned (.string (macT key text)) ∧ Below w.heap.size w w' := by
  have Hk := Aside0.mk hk
  have Ht := Aside0.mk ht
  have hks : key.size ≤ 9223372036854775807 := by omega
  clear hk ht
  rcases Nat.lt_or_ge 64 key.size with hle | hle
  have hle2 : (64 : Int) < (key.size : Int) := by omega
  have hK : keyOf key = sumT key := by unfold keyOf; rw [if_neg (by omega)]
  have HK := Aside0.mk hK
  clear hK
  go_enter Try.func28, Try.ntmps28
  go_wp2_with fail
  refine (ref_sum_any key w Hk.out).mono ?_
  rintro e1 w1 ⟨rfl, hb⟩
  have HB := Aside0.mk hb
  clear hb
  go_upto_region 4 with fail
  have hle0 := sumT_size key
  have hle : (sumT key).size ≤ 64 := by omega
  clear hle0
  have hKe : (⟨(sumV key.data.toList).toArray⟩ : ByteArray) = sumT key := rfl
  rw [hKe]
  clear hKe
  generalize sumT key = K at *
  have HM := Aside0.mk (show macT key text = sumT (⟨(turnedL K.data.toList 92).toArray⟩ ++ sumT (⟨(turnedL K.data.toList 54).toArray⟩ ++ text)) by unfold macT; rw [HK.out])
  rotate_left
  have hle2 : (key.size : Int) ≤ 64 := by omega
  have hK : keyOf key = key := by unfold keyOf; rw [if_pos hle]
  have HK := Aside0.mk hK
  have HB := Aside0.mk (Below.refl w.heap.size w)
  clear hK
  go_enter Try.func28, Try.ntmps28
  go_upto_region 4 with fail
  obtain ⟨K, hKe⟩ : ∃ K, K = key := ⟨_, rfl⟩
  subst hKe
  have HM := Aside0.mk (show macT K text = sumT (⟨(turnedL K.data.toList 92).toArray⟩ ++ sumT (⟨(turnedL K.data.toList 54).toArray⟩ ++ text)) by unfold macT; rw [HK.out])
  all_goals
    have HP := Aside0.mk (P2.nil w _ HB.out)
    have hkl : K.data.toList.length ≤ 64 := by rw [Array.length_toList]; exact hle
    have Hkl := Aside0.mk hkl
    have hks : K.size ≤ 9223372036854775807 := by omega
    clear hle2 HB hkl
    go_wp2
    go_loopw [5, 6, 7] (fun iv ov nv wr => ∃ i : Nat, i ≤ 64 ∧ nv = .int .i64 i ∧ (∃ a1 c1 a2 c2, iv = .slice a1 i c1 ∧ ov = .slice a2 i c2) ∧ Aside0 (P2 w iv ov (tk K.data.toList 54 i) (tk K.data.toList 92 i) wr)) (fun _ _ nv _ => 64 - (intOf nv).toNat)
    case atStart => exact ⟨0, Nat.zero_le _, rfl, ⟨_, _, _, _, rfl, rfl⟩, HP⟩
    case round =>
      clear HP
      obtain ⟨i, hi, rfl, ⟨a1, c1, a2, c2, rfl, rfl⟩, HP⟩ := hrel
      by_cases hlt : i < 64
      · obtain ⟨x, hx⟩ : ∃ x, (key64 K.data.toList).getD i 0 = x := ⟨_, rfl⟩
        have s1 := tk_snoc _ 54 x i Hkl.out hlt hx
        have s2 := tk_snoc _ 92 x i Hkl.out hlt hx
        have x1 := xor8 x 54
        have x2 := xor8 x 92
        rw [show (((54 : UInt8).toNat : Nat) : Int) = 54 from rfl] at x1
        rw [show (((92 : UInt8).toNat : Nat) : Int) = 92 from rfl] at x2
        obtain ⟨y1, hy1⟩ : ∃ y, x ^^^ 54 = y := ⟨_, rfl⟩
        obtain ⟨y2, hy2⟩ : ∃ y, x ^^^ 92 = y := ⟨_, rfl⟩
        rw [hy1] at s1 x1
        rw [hy2] at s2 x2
        have e1 := tk_len K.data.toList 54 i Hkl.out hi
        have e2 := tk_len K.data.toList 92 i Hkl.out hi
        have S1 := Aside0.mk s1
        have S2 := Aside0.mk s2
        have E1 := Aside0.mk e1
        have E2 := Aside0.mk e2
        have Hy1 := Aside0.mk hy1
        have Hy2 := Aside0.mk hy2
        clear s1 s2 e1 e2 hy1 hy2
        have i1 : (0 : Int) ≤ (i : Int) := by omega
        have i2 : (i : Int) < 64 := by omega
        rcases Nat.lt_or_ge i K.size with hin | hin
        have hx2 := key64_at K i hin
        rw [hx] at hx2
        have hx3 : (K[i].toNat : Int) = (x.toNat : Int) := by rw [hx2]
        have hini : (i : Int) < (K.size : Int) := by omega
        clear hx hx2
        go_upto_region 10 with fail
        rotate_left
        have hx2 := key64_over K i (by omega)
        rw [hx] at hx2
        subst hx2
        have hini : (K.size : Int) ≤ (i : Int) := by omega
        have hinn : ¬ ((i : Int) < (K.size : Int)) := by omega
        clear hx x1 x2
        go_upto_region 10 with fail
        all_goals
          go_wp2_with ((with_reducible refine gate_builtin (b := .append) (xs := #[.tmp 25, .tmp 28]) rfl ?_); at_builtin; refine wpList_append_G w.heap.size rfl (.tmp 25) (.tmp 28) 37 5 .u8 rfl Try.underlying37 infoByteS _ (nb (tk K.data.toList 54 i)) _ _ _ _ rfl rfl (HP.out.alloc _).o1 (lit1 _ _) (HP.out.alloc _).be.size (by rw [E1.out]; omega) ?_)
          intro v1 w1 ho hg ha
          obtain ⟨ad1, cp1, hv1⟩ := ownG_shape ho
          rw [List.length_append, E1.out, List.length_singleton] at hv1
          have HP1 := Aside0.mk ((HP.out.alloc _).app1q (y := y1) ho hg ha (by simp) (by first | rfl | (rw [← Hy1.out]; rfl)))
          subst hv1
          clear ho hg ha HP
          go_wp2_with ((with_reducible refine gate_builtin (b := .append) (xs := #[.tmp 30, .tmp 33]) rfl ?_); at_builtin; refine wpList_append_G w.heap.size rfl (.tmp 30) (.tmp 33) 37 5 .u8 rfl Try.underlying37 infoByteS _ (nb (tk K.data.toList 92 i)) _ _ _ _ rfl rfl (HP1.out.alloc _).o2 (lit1 _ _) (HP1.out.alloc _).be.size (by rw [E2.out]; omega) ?_)
          intro v2 w2 ho hg ha
          obtain ⟨ad2, cp2, hv2⟩ := ownG_shape ho
          rw [List.length_append, E2.out, List.length_singleton] at hv2
          have HP2 := Aside0.mk ((HP1.out.alloc _).swap.app1q (y := y2) ho hg ha (by simp) (by first | rfl | (rw [← Hy2.out]; rfl))).swap
          subst hv2
          clear ho hg ha HP1
          go_wp2
          go_roundw
          case rel =>
            refine ⟨i + 1, by omega, by go_num, ⟨_, _, _, _, rfl, rfl⟩, ?_⟩
            rw [S1.out, S2.out]
            exact HP2
          case measure => simp [intOf]; omega
      · obtain rfl : i = 64 := by omega
        rw [tk_full _ _ Hkl.out, tk_full _ _ Hkl.out] at HP
        obtain ⟨I1, hI⟩ : ∃ I : ByteArray, (⟨(turnedL K.data.toList 54).toArray⟩ : ByteArray) = I := ⟨_, rfl⟩
        obtain ⟨O1, hO⟩ : ∃ I : ByteArray, (⟨(turnedL K.data.toList 92).toArray⟩ : ByteArray) = I := ⟨_, rfl⟩
        have kt : ∀ wx, P2 w (.slice a1 64 c1) (.slice a2 64 c2) (turnedL K.data.toList 54) (turnedL K.data.toList 92) wx → (convert 37 9 (.slice a1 64 c1)).run Try.prog wx = .ok (.string I1) wx ∧ (convert 37 9 (.slice a2 64 c2)).run Try.prog wx = .ok (.string O1) wx := fun wx h => by
          rw [← hI, ← hO]
          exact ⟨ownG_text (n := 64) h.o1, ownG_text (n := 64) h.o2⟩
        have Kt := Aside0.mk kt
        have kd := kt _ HP.out.drew
        have k1 := kd.1
        have k2 := kd.2
        have hIs : I1.size = 64 := by
          rw [← hI]
          show (turnedL K.data.toList 54).toArray.size = 64
          rw [List.size_toArray]
          unfold turnedL
          rw [List.length_map, key64_len _ Hkl.out]
        have hOs : O1.size = 64 := by
          rw [← hO]
          show (turnedL K.data.toList 92).toArray.size = 64
          rw [List.size_toArray]
          unfold turnedL
          rw [List.length_map, key64_len _ Hkl.out]
        have HA := Aside0.mk (show (I1 ++ text).size ≤ 140737488354900 by rw [ByteArray.size_append]; have := Ht.out; omega)
        have HO2 := Aside0.mk (show (O1 ++ sumT (I1 ++ text)).size ≤ 140737488354900 by rw [ByteArray.size_append, sumT_size]; omega)
        have q1 : (9223372036854775807 < I1.size + text.size) = False := eq_false (by have := Ht.out; omega)
        have q2 : (9223372036854775807 < O1.size + (sumT (I1 ++ text)).size) = False := eq_false (by rw [sumT_size]; omega)
        have Hfin := Aside0.mk (HM.out.trans (by rw [hI, hO] : _ = sumT (O1 ++ sumT (I1 ++ text))))
        clear kt kd hI hO hIs hOs hi hlt
        go_upto_region 12 with fail
        go_region_with (first
          | (go_at_call 48; (with_reducible refine (ref_sum_t (I1 ++ text) _ HA.out).mono ?_); rintro e1 w3 ⟨rfl, hb⟩; have n0_ : P2 w _ _ _ _ w3 := (by first | exact HP.out.below hb | exact HP.out.drew.below hb | exact (HP.out.drewN _).below hb); clear HP hb k1 k2; have HP := Aside0.mk n0_; clear n0_; have kd := Kt.out _ HP.out; have k1 := kd.1; have k2 := kd.2; clear kd)
          | (go_at_call 48; (with_reducible refine (ref_sum_t (O1 ++ sumT (I1 ++ text)) _ HO2.out).mono ?_); rintro e1 w4 ⟨rfl, hb⟩; have HB := Aside0.mk (HP.out.be.trans (hb.mono HP.out.be.size)); clear hb))
        all_goals
          go_wp2
          go_ret
          exact ⟨by rw [Hfin.out]; rfl, HB.out⟩
end Go.Proofs.Ytehnpmkfgdmmmaa.Sha
/- Walk: awake, of mac. -/
namespace Go.Proofs.Ytehnpmkfgdmmmaa
namespace Sha
open Go Go.RowKit Go.Proofs.Ytehnpmkfgdmmmaa Go.Proofs.YtehnpmkfgdmmmaaW.PrintWords
set_option linter.unusedVariables false
set_option linter.unusedSimpArgs false

def hexes : ByteArray := ⟨#[48, 49, 50, 51, 52, 53, 54, 55, 56, 57, 97, 98, 99, 100, 101, 102]⟩
def letters : ByteArray := ⟨#[65, 66, 67, 68, 69, 70, 71, 72, 73, 74, 75, 76, 77, 78, 79, 80, 81, 82, 83, 84, 85, 86, 87, 88, 89, 90, 97, 98, 99, 100, 101, 102, 103, 104, 105, 106, 107, 108, 109, 110, 111, 112, 113, 114, 115, 116, 117, 118, 119, 120, 121, 122, 48, 49, 50, 51, 52, 53, 54, 55, 56, 57, 45, 95]⟩
theorem hex_any (s : ByteArray) (w : World) (hs : s.size ≤ 70368744177664) : Calls Try.prog 24 #[.string s] w fun e w' => e = .returned (.string ⟨(letB hexes (hexL s.data.toList)).toArray⟩) ∧ Below w.heap.size w w' := by
  have hg := groups_any s 4 hexes
  rw [enc4, hexL_len, Array.length_toList] at hg
  have hz : s.data.size = s.size := rfl
  have Hg := Aside0.mk (fun wx => hg wx (by omega) (by omega) (.inl rfl) rfl)
  clear hg hz
  go_enter Try.func24, Try.ntmps24
  go_wp2_with fail
  refine (Hg.out _).mono ?_
  rintro e w1 ⟨rfl, hb⟩
  go_wp2
  go_ret
  exact ⟨rfl, hb⟩
theorem b64_any (s : ByteArray) (w : World) (hs : s.size ≤ 105553116266496) : Calls Try.prog 36 #[.string s] w fun e w' => e = .returned (.string ⟨(letB letters (b64L s.data.toList)).toArray⟩) ∧ Below w.heap.size w w' := by
  have hg := groups_any s 6 letters
  rw [enc6, b64L_len, Array.length_toList] at hg
  have hz : s.data.size = s.size := rfl
  have Hg := Aside0.mk (fun wx => hg wx (by omega) (by omega) (.inr rfl) rfl)
  clear hg hz
  go_enter Try.func36, Try.ntmps36
  go_wp2_with fail
  refine (Hg.out _).mono ?_
  rintro e w1 ⟨rfl, hb⟩
  go_wp2
  go_ret
  exact ⟨rfl, hb⟩
theorem abc_hex : (⟨(letB hexes (hexL (sumV [97, 98, 99]))).toArray⟩ : ByteArray) = ⟨#[98, 97, 55, 56, 49, 54, 98, 102, 56, 102, 48, 49, 99, 102, 101, 97, 52, 49, 52, 49, 52, 48, 100, 101, 53, 100, 97, 101, 50, 50, 50, 51, 98, 48, 48, 51, 54, 49, 97, 51, 57, 54, 49, 55, 55, 97, 57, 99, 98, 52, 49, 48, 102, 102, 54, 49, 102, 50, 48, 48, 49, 53, 97, 100]⟩ := by decide +kernel
theorem fbff : (⟨(letB letters (b64L [251, 255])).toArray⟩ : ByteArray) = ⟨#[45, 95, 56]⟩ := by decide +kernel
end Sha
open Go Go.RowKit
def atriumref04_Mac.f (a0 a1 : ByteArray) : Option ByteArray := if a0.size ≤ 140737488354900 ∧ a1.size ≤ 140737488354800 then some (Sha.macT a0 a1) else none
theorem atriumref04_Mac.calls (a0 a1 : ByteArray) (r : ByteArray) (w : World) (h : atriumref04_Mac.f a0 a1 = some r) :
    Calls Try.prog 28 #[.string a0, .string a1] w fun e w' => e = .returned (.string r) ∧ Below w.heap.size w w' := by
  unfold atriumref04_Mac.f at h
  split at h
  · rename_i hs
    injection h with h
    subst h
    exact Sha.ref_mac_any a0 a1 w hs.1 hs.2
  · cases h
def atriumlaw04_awake.f : Option Bool := some true
end Go.Proofs.Ytehnpmkfgdmmmaa
/- Walk: the document's Hex; as a printed caller takes a callee. -/
namespace Go.Proofs.Ytehnpmkfgdmmmaa.Sha
open Go Go.RowKit Go.Proofs.Ytehnpmkfgdmmmaa Go.Proofs.YtehnpmkfgdmmmaaW.PrintWords
set_option linter.unusedVariables false
set_option linter.unusedSimpArgs false

theorem step_append_G {P : Program} {ops : Array Oper} {o : Oper} {a : Act} {W : World} {K : Act → World → Prop} {Q : Exit → Act → World → Prop} {E : Prop}
    (base : Nat) (hgd : o.guard = none) (s x : Operand) (t e : TypeId) (k : IntKind)
    (ho : o.op = .call { callee := .builtin .append, args := #[s, x], argTypes := #[t, t] })
    (ht : P.underlying t = some (.slice e)) (hinfo : (P.info? e).map (fun i => (i.zero, i.size, i.bytes)) = some (some (.int k 0), 1, 1))
    (v : Value) (xs ys : List Int) (A : Option Addr) (m c : Nat) (hs : a.eval s = v) (hx : a.eval x = .slice A m c)
    (HO : OwnG W base e k v xs) (HR : ReadsInt W k A m ys) (hbase : base ≤ W.heap.size) (hl : xs.length + m ≤ 140737488355328)
    (h : ∀ v1 w1, OwnG w1 base e k v1 (xs ++ ys) → W.grownBy w1 v.ownBlock → (v1.ownBlock = v.ownBlock ∨ v1.ownBlock = some W.heap.size) → K (a.put o.dst v1) w1) :
    if Region.wanted o (yielded ops a.tmps) = true then Oper.wp P o a W K Q else E := by
  have hw : Region.wanted o (yielded ops a.tmps) = true := by simp [Region.wanted, hgd]
  rw [if_pos hw]
  obtain ⟨v1, w1, hr, hown, hg, hat⟩ := run_append_G (P := P) W base t o.type e k ht hinfo v xs ys A m c HO HR hbase hl
  unfold Oper.wp execOp
  simp only [ho, resolve, invoke, builtin, Sem.run_bind, Sem.run_pure, Result.andThen_ok, List.map_toArray, List.map_cons, List.map_nil, hs, hx, hr]
  exact h v1 w1 hown hg hat
theorem lit2 (w : World) (q0 q1 : Int) : ReadsInt (w.alloc (.cells #[.int .u8 q0, .int .u8 q1] 5)) .u8 (some ⟨w.heap.size, 0, none⟩) 2 [q0, q1] := by
  refine ⟨rfl, by decide, fun _ => ⟨_, rfl, fun j hj => ?_⟩⟩
  rw [add_plain, cell_of_row _ _ _ _ _ _ (heap_alloc_new _ _)]
  match j, hj with
  | 0, _ => rfl
  | 1, _ => rfl
def hexes0 : ByteArray := ⟨#[48, 49, 50, 51, 52, 53, 54, 55, 56, 57, 97, 98, 99, 100, 101, 102]⟩
theorem hexL_snoc (l : List UInt8) (c : UInt8) : hexL (l ++ [c]) = hexL l ++ [c.toNat / 16, c.toNat % 16] := by
  unfold hexL
  rw [List.flatMap_append]
  simp
set_option maxHeartbeats 2000000 in
set_option maxRecDepth 100000 in
theorem ref_hex_any (s : ByteArray) (w : World) (hs : s.size ≤ 70368744177600) :
    Calls Try.prog 27 #[.string s] w fun e w' => e = .returned (.string ⟨(letB hexes0 (hexL s.data.toList)).toArray⟩) ∧ Below w.heap.size w w' := by
  have Hs := Aside0.mk hs
  have hsm : s.size ≤ 9223372036854775807 := by omega
  clear hs
  have HP := Aside0.mk (P2.nil w w (Below.refl _ _))
  go_enter Try.func27, Try.ntmps27
  go_wp2
  go_loopw [3, 4] (fun bv iv wr => ∃ i : Nat, i ≤ s.size ∧ iv = .int .i64 i ∧ (∃ a1 c1, bv = .slice a1 (2 * i) c1) ∧ Aside0 (P2 w bv (.slice none 0 0) (letB hexes0 (hexL (s.data.toList.take i))) [] wr)) (fun _ iv _ => s.size - (intOf iv).toNat)
  case atStart => exact ⟨0, Nat.zero_le _, rfl, ⟨_, _, rfl⟩, HP⟩
  case round =>
    clear HP
    obtain ⟨i, hi, rfl, ⟨a1, c1, rfl⟩, HP⟩ := hrel
    by_cases hlt : i < s.size
    · have hin : (i : Int) < (s.size : Int) := by omega
      have i0 : (0 : Int) ≤ (i : Int) := by omega
      have hc := s[i].toNat_lt
      obtain ⟨c, hcn⟩ : ∃ c : Nat, s[i].toNat = c := ⟨_, rfl⟩
      have hcs : s.data.toList.take (i + 1) = s.data.toList.take i ++ [s[i]] := by
        rw [List.take_succ_eq_append_getElem (by rw [Array.length_toList]; exact hlt)]; rfl
      have hx3 : (s[i].toNat : Int) = (c : Int) := by rw [hcn]
      rw [hcn] at hc
      have c0 : (0 : Int) ≤ (c : Int) := by omega
      have c2 : (c : Int) < 256 := by omega
      obtain ⟨q, hq⟩ : ∃ q : Nat, c / 16 = q := ⟨_, rfl⟩
      obtain ⟨r, hr⟩ : ∃ r : Nat, c % 16 = r := ⟨_, rfl⟩
      have hqi : (c : Int) / 16 = (q : Int) := by omega
      have hri : (c : Int) % 16 = (r : Int) := by omega
      have hrt : (c : Int).tmod 16 = (r : Int) := by rw [Int.tmod_eq_emod_of_nonneg (by omega)]; exact hri
      have hqw : IntKind.u8.wrap (q : Int) = (q : Int) := by show (q : Int) % 256 = _; omega
      have hrw : IntKind.u8.wrap (r : Int) = (r : Int) := by show (r : Int) % 256 = _; omega
      have q16 : (q : Int) < 16 := by omega
      have r16 : (r : Int) < 16 := by omega
      have q16n : q < 16 := by omega
      have r16n : r < 16 := by omega
      obtain ⟨y1, hy1⟩ : ∃ y : UInt8, hexes0.data.toList.getD q 0 = y := ⟨_, rfl⟩
      obtain ⟨y2, hy2⟩ : ∃ y : UInt8, hexes0.data.toList.getD r 0 = y := ⟨_, rfl⟩
      have hx1 : ∀ h : q < (⟨#[48, 49, 50, 51, 52, 53, 54, 55, 56, 57, 97, 98, 99, 100, 101, 102]⟩ : ByteArray).size, (((⟨#[48, 49, 50, 51, 52, 53, 54, 55, 56, 57, 97, 98, 99, 100, 101, 102]⟩ : ByteArray)[q]'h).toNat : Int) = (y1.toNat : Int) := fun h => by
        rw [← hy1, List.getD_eq_getElem?_getD, Array.getElem?_toList, Array.getElem?_eq_getElem (show q < hexes0.data.size from h)]; rfl
      have hx2 : ∀ h : r < (⟨#[48, 49, 50, 51, 52, 53, 54, 55, 56, 57, 97, 98, 99, 100, 101, 102]⟩ : ByteArray).size, (((⟨#[48, 49, 50, 51, 52, 53, 54, 55, 56, 57, 97, 98, 99, 100, 101, 102]⟩ : ByteArray)[r]'h).toNat : Int) = (y2.toNat : Int) := fun h => by
        rw [← hy2, List.getD_eq_getElem?_getD, Array.getElem?_toList, Array.getElem?_eq_getElem (show r < hexes0.data.size from h)]; rfl
      have hst : letB hexes0 (hexL (s.data.toList.take (i + 1))) = letB hexes0 (hexL (s.data.toList.take i)) ++ [y1, y2] := by
        rw [hcs, hexL_snoc, hcn, hq, hr]
        unfold letB
        rw [List.map_append]
        simp only [List.map_cons, List.map_nil]
        rw [hy1, hy2]
      have Hst := Aside0.mk hst
      have hll : (nb (letB hexes0 (hexL (s.data.toList.take i)))).length = 2 * i := by
        unfold letB
        rw [nb_len, List.length_map, hexL_len, List.length_take, Array.length_toList, Nat.min_eq_left (by show i ≤ s.size; omega)]
      have Hll := Aside0.mk hll
      clear hq hr hy1 hy2 hst hcs hcn hll
      go_upto_region 5 with fail
      go_region_law (refine step_append_G w.heap.size rfl (.tmp 11) (.tmp 22) 37 5 .u8 rfl Try.underlying37 infoByteS _ (nb (letB hexes0 (hexL (s.data.toList.take i)))) _ _ _ _ rfl rfl (HP.out.drew.alloc _).o1 (lit2 _ _ _) (HP.out.drew.alloc _).be.size (by rw [Hll.out]; have := Hs.out; omega) ?_; intro v1 w1 ho hg ha)
      all_goals
        have HP1 := Aside0.mk ((HP.out.drew.alloc _).app1 (m := [y1, y2]) ho hg (by rcases ha with h | h; exact .inl h; exact .inr (h.trans (by simp))))
        obtain ⟨ad1, cp1, hv1⟩ := ownG_shape ho
        rw [List.length_append, Hll.out] at hv1
        rw [show 2 * i + [_, _].length = 2 * (i + 1) by simp; omega] at hv1
        subst hv1
        clear ho hg ha HP
        go_wp2
        go_roundw
        case rel =>
          refine ⟨i + 1, by omega, by go_num, ⟨_, _, rfl⟩, ?_⟩
          rw [Hst.out]
          exact HP1
        case measure => simp [intOf]; omega
    · obtain rfl : i = s.size := by omega
      have hl := HP.out
      rw [List.take_of_length_le (by rw [Array.length_toList]; exact Nat.le_refl _)] at hl
      have HP1 := Aside0.mk hl
      have kc := ownG_text (n := 2 * s.size) HP1.out.o1
      clear hl HP
      go_wp2
      go_ret
      exact ⟨rfl, HP1.out.be⟩
end Go.Proofs.Ytehnpmkfgdmmmaa.Sha
namespace Go.Proofs.Ytehnpmkfgdmmmaa
open Go Go.RowKit Go.Proofs.YtehnpmkfgdmmmaaW.PrintWords
set_option linter.unusedVariables false
set_option linter.unusedSimpArgs false

def atriumref04_Hex.f (a0 : ByteArray) : Option ByteArray := if a0.size ≤ 70368744177600 then some ⟨(Sha.letB Sha.hexes0 (Sha.hexL a0.data.toList)).toArray⟩ else none
theorem atriumref04_Hex.calls (a0 : ByteArray) (r : ByteArray) (w : World) (h : atriumref04_Hex.f a0 = some r) :
    Calls Try.prog 27 #[.string a0] w fun e w' => e = .returned (.string r) ∧ Below w.heap.size w w' := by
  unfold atriumref04_Hex.f at h
  split at h
  · rename_i hs
    injection h with h
    subst h
    exact Sha.ref_hex_any a0 w hs
  · cases h
end Go.Proofs.Ytehnpmkfgdmmmaa
/- Plain: digits and letters, read back; small laws. -/
namespace Go.Proofs.Ytehnpmkfgdmmmaa
open Go Go.RowKit Go.Proofs.YtehnpmkfgdmmmaaW.PrintWords
set_option linter.unusedVariables false
set_option linter.unusedSimpArgs false
theorem bt_nat (s : ByteArray) (k : Nat) (h : k < s.size) : bt s (k : Int) = ((s[k]'h).toNat : Int) := by
  unfold bt
  rw [dif_pos (by simpa using h)]
  rfl
theorem bt_nat' (s : ByteArray) (k : Nat) (h : k < s.size) : ∃ b : UInt8, bt s (k : Int) = (b.toNat : Int) ∧ s.data.toList.take (k + 1) = s.data.toList.take k ++ [b] ∧ b = s[k]'h := by
  refine ⟨s[k]'h, bt_nat s k h, ?_, rfl⟩
  rw [List.take_succ_eq_append_getElem (by simpa using h)]; rfl
theorem wrap64_id {x : Int} (h : -9223372036854775808 ≤ x) (h' : x ≤ 9223372036854775807) : wrap64 x = x := by unfold wrap64; omega
theorem wrap64_nat {n : Nat} (h : n ≤ 9223372036854775807) : wrap64 (n : Int) = (n : Int) := wrap64_id (by omega) (by omega)
theorem wrap64_succ {n : Nat} (h : n < 9223372036854775807) : wrap64 ((n : Int) + 1) = ((n + 1 : Nat) : Int) := by rw [wrap64_id (by omega) (by omega)]; rfl
theorem wrap32_id {x : Int} (h : -2147483648 ≤ x) (h' : x ≤ 2147483647) : wrap32 x = x := by unfold wrap32; omega
theorem toList_inj {a b : ByteArray} : a.toList = b.toList ↔ a = b := by
  rw [ByteArray.toList_eq, ByteArray.toList_eq]
  constructor
  · intro h; cases a; cases b; simp at h; rw [h]
  · intro h; rw [h]
theorem data_inj {a b : ByteArray} (h : a.data.toList = b.data.toList) : a = b := by cases a; cases b; simp at h; rw [h]
/-- A callee without rounds whose answer is known. -/
theorem evBindc {α β : Type} {x : Option α} {f : Nat → α → Option β} {a : α} {r : β} (h : x = some a) (k : Ev (fun n => f n a) r) : Ev (fun n => x.bind (f n)) r := by
  subst h
  exact k
theorem evIfPos {α : Type} {c : Prop} [Decidable c] {f g : Nat → Option α} {r : α} (h : c) (k : Ev f r) : Ev (fun n => if c then f n else g n) r := by
  obtain ⟨K, k⟩ := k
  exact ⟨K, fun n hn => by simp only [if_pos h]; exact k n hn⟩
theorem evIfNeg {α : Type} {c : Prop} [Decidable c] {f g : Nat → Option α} {r : α} (h : ¬ c) (k : Ev g r) : Ev (fun n => if c then f n else g n) r := by
  obtain ⟨K, k⟩ := k
  exact ⟨K, fun n hn => by simp only [if_neg h]; exact k n hn⟩
end Go.Proofs.Ytehnpmkfgdmmmaa
namespace Go.Proofs.Ytehnpmkfgdmmmaa.Sha
open Go Go.RowKit Go.Proofs.Ytehnpmkfgdmmmaa Go.Proofs.YtehnpmkfgdmmmaaW.PrintWords
set_option linter.unusedVariables false
set_option linter.unusedSimpArgs false

abbrev hl : List UInt8 := hexes.data.toList
abbrev ll : List UInt8 := letters.data.toList
theorem ix_hex : ∀ x, x < 16 → Lib.indexByte hl (hl.getD x 0) = (x : Int) := by decide +kernel
theorem ix_let : ∀ x, x < 64 → Lib.indexByte ll (ll.getD x 0) = (x : Int) := by decide +kernel
theorem ix_at {l : List UInt8} {c : UInt8} {x : Nat} (h : Lib.indexByte l c = (x : Int)) : l.getD x 0 = c := by
  rw [List.getD_eq_getElem?_getD, (Lib.indexByte_some h).1]; rfl
theorem ix_cases (l : List UInt8) (c : UInt8) : Lib.indexByte l c < 0 ∨ ∃ x : Nat, Lib.indexByte l c = (x : Int) ∧ x < l.length := by
  rcases Int.lt_or_le (Lib.indexByte l c) 0 with h | h
  · exact .inl h
  · have h2 := indexByte_lt l c
    exact .inr ⟨(Lib.indexByte l c).toNat, by omega, by omega⟩
theorem hl_len : hl.length = 16 := rfl
theorem ll_len : ll.length = 64 := rfl

/-! ### digits -/
theorem dec4_two {c1 c2 : UInt8} {x y : Nat} (l : List UInt8) (h1 : Lib.indexByte hl c1 = (x : Int)) (h2 : Lib.indexByte hl c2 = (y : Int)) : decG 4 hl (c1 :: c2 :: l) 0 0 = (decG 4 hl l 0 0).map (b8 (16 * x + y) :: ·) := by
  rw [decG_on _ 0 0 h1 (by omega) rfl, decG_out _ _ _ h2 (by omega) rfl rfl]
  simp only [Nat.zero_mul, Nat.zero_add, Nat.reduceAdd, Nat.reduceSub, Nat.pow_zero, Nat.div_one, Nat.mod_one, Nat.reducePow, Nat.sub_self]
  rw [Nat.mul_comm]
theorem dec4_no2 {c1 c2 : UInt8} {x : Nat} (l : List UInt8) (h1 : Lib.indexByte hl c1 = (x : Int)) (h2 : Lib.indexByte hl c2 < 0) : decG 4 hl (c1 :: c2 :: l) 0 0 = none := by
  rw [decG_on _ 0 0 h1 (by omega) rfl, decG_no _ _ _ h2]
theorem dec4_back : ∀ l : List UInt8, decG 4 hl (letB hexes (hexL l)) 0 0 = some l
  | [] => rfl
  | c :: l => by
    have hc := c.toNat_lt
    have e : letB hexes (hexL (c :: l)) = hl.getD (c.toNat / 16) 0 :: hl.getD (c.toNat % 16) 0 :: letB hexes (hexL l) := rfl
    rw [e, dec4_two _ (ix_hex _ (by omega)) (ix_hex _ (by omega)), dec4_back l]
    have e2 : b8 (16 * (c.toNat / 16) + c.toNat % 16) = c := by
      apply UInt8.toNat_inj.1
      rw [b8_nat]; omega
    rw [e2]; rfl
/-- What was read as digits has these digits. -/
theorem dec4_hex : ∀ (n : Nat) (s l : List UInt8), s.length = 2 * n → decG 4 hl s 0 0 = some l → letB hexes (hexL l) = s ∧ l.length = n
  | 0, s, l, hs, h => by
    obtain rfl : s = [] := List.eq_nil_of_length_eq_zero (by omega)
    rw [decG_nil, if_neg (by omega)] at h
    injection h with h
    subst h
    exact ⟨rfl, rfl⟩
  | n + 1, c1 :: c2 :: s, l, hs, h => by
    rcases ix_cases hl c1 with h1 | ⟨x, h1, hx⟩
    · rw [decG_no _ _ _ h1] at h; cases h
    · rcases ix_cases hl c2 with h2 | ⟨y, h2, hy⟩
      · rw [dec4_no2 _ h1 h2] at h; cases h
      · rw [dec4_two _ h1 h2] at h
        cases hd : decG 4 hl s 0 0 with
        | none => rw [hd] at h; cases h
        | some l2 =>
          rw [hd] at h
          injection h with h
          subst h
          obtain ⟨e1, e2⟩ := dec4_hex n s l2 (by simp at hs; omega) hd
          rw [hl_len] at hx hy
          refine ⟨?_, by rw [List.length_cons, e2]⟩
          have e : letB hexes (hexL (b8 (16 * x + y) :: l2)) = hl.getD ((b8 (16 * x + y)).toNat / 16) 0 :: hl.getD ((b8 (16 * x + y)).toNat % 16) 0 :: letB hexes (hexL l2) := rfl
          rw [e, b8_nat, show (16 * x + y) % 256 / 16 = x by omega, show (16 * x + y) % 256 % 16 = y by omega, ix_at h1, ix_at h2, e1]
  | n + 1, [c1], l, hs, h => by simp at hs; omega
  | n + 1, [], l, hs, h => by simp at hs

/-! ### letters -/
/-- The numbers of letters; none: one is no letter. -/
def digs : List UInt8 → Option (List Nat)
  | [] => some []
  | c :: l => if Lib.indexByte ll c < 0 then none else (digs l).map ((Lib.indexByte ll c).toNat :: ·)
theorem digs_no {c : UInt8} (l : List UInt8) (h : Lib.indexByte ll c < 0) : digs (c :: l) = none := by rw [digs, if_pos h]
theorem digs_yes {c : UInt8} {x : Nat} (l : List UInt8) (h : Lib.indexByte ll c = (x : Int)) : digs (c :: l) = (digs l).map (x :: ·) := by
  rw [digs, if_neg (by omega), h, Int.toNat_natCast]
theorem digs_let : ∀ (s : List UInt8) (d : List Nat), digs s = some d → letB letters d = s ∧ (∀ x ∈ d, x < 64) ∧ d.length = s.length
  | [], d, h => by
    injection h with h
    subst h
    exact ⟨rfl, (fun x hx => by cases hx), rfl⟩
  | c :: s, d, h => by
    rcases ix_cases ll c with h1 | ⟨x, h1, hx⟩
    · rw [digs_no _ h1] at h; cases h
    · rw [digs_yes _ h1] at h
      cases hd : digs s with
      | none => rw [hd] at h; cases h
      | some d2 =>
        rw [hd] at h
        injection h with h
        subst h
        obtain ⟨e1, e2, e3⟩ := digs_let s d2 hd
        rw [ll_len] at hx
        refine ⟨?_, fun y hy => ?_, by rw [List.length_cons, List.length_cons, e3]⟩
        · have e : letB letters (x :: d2) = ll.getD x 0 :: letB letters d2 := rfl
          rw [e, ix_at h1, e1]
        · rcases List.mem_cons.1 hy with h | h
          · subst h; exact hx
          · exact e2 y h
theorem let_digs : ∀ d : List Nat, (∀ x ∈ d, x < 64) → digs (letB letters d) = some d
  | [], _ => rfl
  | x :: d, h => by
    have e : letB letters (x :: d) = ll.getD x 0 :: letB letters d := rfl
    rw [e, digs_yes _ (ix_let x (h x (by simp))), let_digs d (fun y hy => h y (by simp [hy]))]
    rfl
/-- What so many numbers of six bits tell, from a state on; and the state behind them. -/
def outS : List Nat → Nat → Nat → List UInt8
  | [], _, _ => []
  | d :: l, now, have_ => if 8 ≤ have_ + 6 then b8 ((now * 64 + d) / 2 ^ (have_ + 6 - 8)) :: outS l ((now * 64 + d) % 2 ^ (have_ + 6 - 8)) (have_ + 6 - 8) else outS l (now * 64 + d) (have_ + 6)
def okS : List Nat → Nat → Nat → Bool
  | [], now, have_ => !(6 ≤ have_ || now != 0)
  | d :: l, now, have_ => if 8 ≤ have_ + 6 then okS l ((now * 64 + d) % 2 ^ (have_ + 6 - 8)) (have_ + 6 - 8) else okS l (now * 64 + d) (have_ + 6)
def decS (d : Option (List Nat)) (now have_ : Nat) : Option (List UInt8) := d.bind fun d => if okS d now have_ = true then some (outS d now have_) else none
theorem decS_none (now have_ : Nat) : decS none now have_ = none := rfl
theorem dec6 : ∀ (s : List UInt8) (now have_ : Nat), decG 6 ll s now have_ = decS (digs s) now have_
  | [], now, have_ => by
    rw [decG_nil]
    show _ = if okS [] now have_ = true then some [] else none
    by_cases h : 6 ≤ have_ ∨ now ≠ 0
    · rw [if_pos h, if_neg]
      simp only [okS, Bool.not_eq_true', Bool.or_eq_false_iff, decide_eq_false_iff_not, bne_eq_false_iff_eq]
      omega
    · rw [if_neg h, if_pos]
      simp only [okS, Bool.not_eq_true', Bool.or_eq_false_iff, decide_eq_false_iff_not, bne_eq_false_iff_eq]
      omega
  | c :: s, now, have_ => by
    rcases ix_cases ll c with h1 | ⟨x, h1, hx⟩
    · rw [decG_no _ _ _ h1, digs_no _ h1]; rfl
    · rw [digs_yes _ h1]
      by_cases h8 : 8 ≤ have_ + 6
      · rw [decG_out _ _ _ h1 h8 rfl rfl, dec6 s]
        cases digs s with
        | none => rfl
        | some d =>
          unfold decS
          simp only [Option.map_some, Option.bind_some, okS, outS, if_pos h8, Nat.reducePow]
          split <;> rfl
      · rw [decG_on _ _ _ h1 h8 rfl, dec6 s]
        cases digs s with
        | none => rfl
        | some d =>
          unfold decS
          simp only [Option.map_some, Option.bind_some, okS, outS, if_neg h8, Nat.reducePow]
theorem out1 (w : Nat) (l : List Nat) : outS (w :: l) 0 0 = outS l w 6 ∧ okS (w :: l) 0 0 = okS l w 6 := by simp [outS, okS]
theorem out2 (w x : Nat) (l : List Nat) (hx : x < 64) : outS (x :: l) w 6 = b8 (w * 4 + x / 16) :: outS l (x % 16) 4 ∧ okS (x :: l) w 6 = okS l (x % 16) 4 := by
  simp only [outS, okS, Nat.reduceAdd, Nat.reduceLeDiff, if_true, Nat.reduceSub, Nat.reducePow]
  rw [show (w * 64 + x) / 16 = w * 4 + x / 16 by omega, show (w * 64 + x) % 16 = x % 16 by omega]
  exact ⟨rfl, rfl⟩
theorem out3 (n y : Nat) (l : List Nat) (hy : y < 64) : outS (y :: l) n 4 = b8 (n * 16 + y / 4) :: outS l (y % 4) 2 ∧ okS (y :: l) n 4 = okS l (y % 4) 2 := by
  simp only [outS, okS, Nat.reduceAdd, Nat.reduceLeDiff, if_true, Nat.reduceSub, Nat.reducePow]
  rw [show (n * 64 + y) / 4 = n * 16 + y / 4 by omega, show (n * 64 + y) % 4 = y % 4 by omega]
  exact ⟨rfl, rfl⟩
theorem out4 (n z : Nat) (l : List Nat) : outS (z :: l) n 2 = b8 (n * 64 + z) :: outS l 0 0 ∧ okS (z :: l) n 2 = okS l 0 0 := by
  constructor
  · rw [outS, if_pos (by omega)]
    simp only [Nat.reduceAdd, Nat.reduceSub, Nat.pow_zero, Nat.div_one, Nat.mod_one, Nat.sub_self]
  · rw [okS, if_pos (by omega)]
    simp only [Nat.reduceAdd, Nat.reduceSub, Nat.pow_zero, Nat.mod_one, Nat.sub_self]
/-- Letters are the ones of the bytes that they tell just if nothing is left behind them. -/
theorem back6 : ∀ d : List Nat, (∀ x ∈ d, x < 64) → (b64L (outS d 0 0) = d ↔ okS d 0 0 = true)
  | [], _ => by simp [outS, okS, b64L]
  | [w], h => by simp [outS, okS, b64L]
  | [w, x], h => by
    have hw := h w (by simp)
    have hx := h x (by simp)
    rw [(out1 w [x]).1, (out1 w [x]).2, (out2 w x [] hx).1, (out2 w x [] hx).2]
    simp only [outS, okS, b64L, b8_nat]
    rw [show (w * 4 + x / 16) % 256 / 4 = w by omega, show (w * 4 + x / 16) % 256 % 4 * 16 = x / 16 * 16 by omega]
    simp
    omega
  | [w, x, y], h => by
    have hw := h w (by simp)
    have hx := h x (by simp)
    have hy := h y (by simp)
    rw [(out1 w [x, y]).1, (out1 w [x, y]).2, (out2 w x [y] hx).1, (out2 w x [y] hx).2, (out3 (x % 16) y [] hy).1, (out3 (x % 16) y [] hy).2]
    simp only [outS, okS, b64L, b8_nat]
    rw [show (w * 4 + x / 16) % 256 / 4 = w by omega, show (w * 4 + x / 16) % 256 % 4 * 16 + (x % 16 * 16 + y / 4) % 256 / 16 = x by omega, show (x % 16 * 16 + y / 4) % 256 % 16 * 4 = y / 4 * 4 by omega]
    simp
    omega
  | w :: x :: y :: z :: d, h => by
    have hw := h w (by simp)
    have hx := h x (by simp)
    have hy := h y (by simp)
    have hz := h z (by simp)
    have ih := back6 d (fun q hq => h q (by simp [hq]))
    rw [(out1 w _).1, (out1 w _).2, (out2 w x _ hx).1, (out2 w x _ hx).2, (out3 (x % 16) y _ hy).1, (out3 (x % 16) y _ hy).2, (out4 (y % 4) z _).1, (out4 (y % 4) z _).2]
    simp only [b64L, b8_nat]
    rw [show (w * 4 + x / 16) % 256 / 4 = w by omega, show (w * 4 + x / 16) % 256 % 4 * 16 + (x % 16 * 16 + y / 4) % 256 / 16 = x by omega, show (x % 16 * 16 + y / 4) % 256 % 16 * 4 + (y % 4 * 64 + z) % 256 / 64 = y by omega, show (y % 4 * 64 + z) % 256 % 64 = z by omega]
    simp only [List.cons.injEq, true_and]
    exact ih
theorem outS_len : ∀ (d : List Nat) (now have_ : Nat), 8 * (outS d now have_).length ≤ 6 * d.length + have_
  | [], _, _ => Nat.zero_le _
  | x :: d, now, have_ => by
    unfold outS
    split
    · rename_i h
      have := outS_len d ((now * 64 + x) % 2 ^ (have_ + 6 - 8)) (have_ + 6 - 8)
      rw [List.length_cons, List.length_cons]
      omega
    · have := outS_len d (now * 64 + x) (have_ + 6)
      rw [List.length_cons]
      omega
theorem out_b64 : ∀ l : List UInt8, outS (b64L l) 0 0 = l ∧ okS (b64L l) 0 0 = true
  | [] => ⟨rfl, rfl⟩
  | [a] => by
    have ha := a.toNat_lt
    simp only [b64L]
    rw [(out1 _ _).1, (out1 _ _).2, (out2 _ _ [] (by omega)).1, (out2 _ _ [] (by omega)).2]
    refine ⟨?_, ?_⟩
    · simp only [outS]
      congr 1
      apply UInt8.toNat_inj.1
      rw [b8_nat]; omega
    · rw [show a.toNat % 4 * 16 % 16 = 0 by omega]; rfl
  | [a, b] => by
    have ha := a.toNat_lt
    have hb := b.toNat_lt
    simp only [b64L]
    rw [(out1 _ _).1, (out1 _ _).2, (out2 _ _ _ (by omega)).1, (out2 _ _ _ (by omega)).2, (out3 _ _ [] (by omega)).1, (out3 _ _ [] (by omega)).2]
    refine ⟨?_, ?_⟩
    · simp only [outS]
      congr 1
      · apply UInt8.toNat_inj.1
        rw [b8_nat]; omega
      · congr 1
        apply UInt8.toNat_inj.1
        rw [b8_nat]; omega
    · rw [show b.toNat % 16 * 4 % 4 = 0 by omega]; rfl
  | a :: b :: c :: l => by
    have ha := a.toNat_lt
    have hb := b.toNat_lt
    have hc := c.toNat_lt
    have ih := out_b64 l
    simp only [b64L]
    rw [(out1 _ _).1, (out1 _ _).2, (out2 _ _ _ (by omega)).1, (out2 _ _ _ (by omega)).2, (out3 _ _ _ (by omega)).1, (out3 _ _ _ (by omega)).2, (out4 _ _ _).1, (out4 _ _ _).2, ih.1]
    refine ⟨?_, ih.2⟩
    congr 1
    · apply UInt8.toNat_inj.1
      rw [b8_nat]; omega
    · congr 1
      · apply UInt8.toNat_inj.1
        rw [b8_nat]; omega
      · congr 1
        apply UInt8.toNat_inj.1
        rw [b8_nat]; omega
end Go.Proofs.Ytehnpmkfgdmmmaa.Sha
