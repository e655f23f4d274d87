/- Walks: bytes as letters, so many bits each (mac.groups). -/
import Derived.Test.YtililaifppblhaaHsD
import Derived.Outline
import Derived.IntWalk
namespace Go.Proofs.Ytililaifppblhaa
open Go Go.RowKit
set_option linter.unusedVariables false
set_option linter.unusedSimpArgs false

set_option maxHeartbeats 2000000 in
theorem bld_WriteByte (B b : Nat) (bs : List Value) (c : Int) (w : World) (h : BldF B b bs w) (hlen : bs.length + 1 ≤ 140737488355328) (hBw : B ≤ w.heap.size) :
    Calls Try.prog 57 #[.pointer (some ⟨b, 0, none⟩), .int .u8 c] w fun e w' => e = .returned .nilIface ∧ BldAt B b (bs ++ [.int .u8 c]) w' ∧ Below B w w' ∧ Lib.OthersKept 5 (some b) w w' := by
  obtain ⟨i0, hi, hz0, hz1, hz2⟩ := info_parts infoByte
  go_enter Try.func57, Try.ntmps57
  go_wp2_with (go_at_call 55; refine (bld_copyCheck B b bs _ h).mono ?_)
  rintro e w1 ⟨rfl, h1, hb1, hk1⟩
  obtain ⟨hB, v, hbk, hown, hne⟩ := h1
  have c0 : w1.cell? ⟨b, 0, none⟩ = some (.pointer (some ⟨b, 0, none⟩)) := by rw [Lib.cell_of_heap hbk]; rfl
  have c1 : w1.cell? ⟨b, 1, none⟩ = some v := by rw [Lib.cell_of_heap hbk]; rfl
  go_wp2_with (at_builtin; refine wpList_append_ownF _ rfl _ _ 28 rfl B 5 i0 (.int .u8 0) 1 1 Try.underlying28 hi hz0 hz1 hz2 rfl (by decide) _ _ _ rfl (hown.alloc _) ⟨w1.heap.size, 0, none⟩ 1 1 [.int .u8 c] rfl rfl ?c1 ?c2 ?c3 ?c4 ?c5 ?_)
  case c1 =>
    intro j u hj
    match j, hj with
    | 0, hj => simp at hj; subst hj; simp [Addr.add]
  case c2 => intro u hu; simp at hu; subst hu; rfl
  case c3 => unfold maxLen; omega
  case c4 => omega
  case c5 => have := hb1.size; simp; omega
  intro v' w2 hown' hgrow _
  have hlt : b < w1.heap.size := by
    rcases Nat.lt_or_ge b w1.heap.size with h' | h'
    · exact h'
    · simp [Array.getElem?_eq_none h'] at hbk
  have hb2 : w2.heap[b]? = some (.cells #[.pointer (some ⟨b, 0, none⟩), v] 57 (0, 0)) := by
    rw [hgrow.block b (by simp; omega) (fun e => hne e.symm), Lib.alloc_old w1 _ b hlt]
    exact hbk
  have d0 : w2.cell? ⟨b, 0, none⟩ = some (.pointer (some ⟨b, 0, none⟩)) := by rw [Lib.cell_of_heap hb2]; rfl
  have d1 : w2.cell? ⟨b, 1, none⟩ = some v := by rw [Lib.cell_of_heap hb2]; rfl
  have f1 : w2.frozen? ⟨b, 1, none⟩ = false := Lib.frozen_of_heap hb2 1
  obtain ⟨g, cap, rfl⟩ : ∃ g cap, v' = .slice (some ⟨g, 0, none⟩) (bs.length + 1) cap := by
    rcases hown'.2 with ⟨_, h0⟩ | ⟨g, cap, cur, fz, hv, _⟩
    · omega
    · exact ⟨g, cap, hv⟩
  go_wp2
  go_ret
  refine ⟨rfl, ?_, ?_, ((hk1.alloc _).grown hgrow (Lib.ownsRowF_kind (hown.alloc _))).setCell ⟨b, 1, none⟩ rfl _⟩
  · exact Lib.BuilderAtF.put (T := 57) (e := 5) hB hb2 (bs' := bs ++ [.int .u8 c]) (by simpa using hown') (by decide)
  · exact ((hb1.alloc (by have := hb1.size; omega) _).grown hgrow (by have := hb1.size; simp; omega) (fun k hk => (hown.lt k hk).1)).setCell (p := ⟨b, 1, none⟩) hB _

namespace Sha
open Go.Proofs.YtililaifppblhaaW.PrintWords
/-- The numbers of the letters. -/
def encI (W : Nat) (l : List UInt8) (now have_ : Nat) : List Nat :=
  if 0 < W ∧ W ≤ have_ then now / 2 ^ (have_ - W) :: encI W l (now % 2 ^ (have_ - W)) (have_ - W)
  else match l with
    | [] => if 0 < have_ then [now * 2 ^ (W - have_)] else []
    | c :: l => encI W l (now * 256 + c.toNat) (have_ + 8)
termination_by (l.length, have_)
decreasing_by
  · apply Prod.Lex.right; omega
  · apply Prod.Lex.left; simp
theorem encI_more {W : Nat} {l : List UInt8} {now have_ : Nat} (h0 : 0 < W) (h : W ≤ have_) : encI W l now have_ = now / 2 ^ (have_ - W) :: encI W l (now % 2 ^ (have_ - W)) (have_ - W) := by
  rw [encI.eq_def, if_pos ⟨h0, h⟩]
theorem encI_next {W : Nat} {c : UInt8} {l : List UInt8} {now have_ : Nat} (h : have_ < W) : encI W (c :: l) now have_ = encI W l (now * 256 + c.toNat) (have_ + 8) := by
  rw [encI.eq_def, if_neg (by omega)]
theorem encI_end {W : Nat} {now have_ : Nat} (h : have_ < W) : encI W [] now have_ = if 0 < have_ then [now * 2 ^ (W - have_)] else [] := by
  rw [encI.eq_def, if_neg (by omega)]
theorem bits_nat_and (a b : Nat) (ha : a < 9223372036854775808) (hb : b < 9223372036854775808) : Go.bits .and .i64 (a : Int) (b : Int) = ((a &&& b : Nat) : Int) := by
  show IntKind.i64.wrap ((BitVec.ofInt 64 (a : Int) &&& BitVec.ofInt 64 (b : Int)).toNat : Int) = _
  rw [BitVec.ofInt_natCast, BitVec.ofInt_natCast, BitVec.toNat_and, BitVec.toNat_ofNat, BitVec.toNat_ofNat, Nat.mod_eq_of_lt (by omega), Nat.mod_eq_of_lt (by omega)]
  have h : a &&& b ≤ a := Nat.and_le_left
  exact IntWalk.i64_in _ (by omega)
theorem bits_nat_or (a b : Nat) (ha : a < 4611686018427387904) (hb : b < 4611686018427387904) (e : a ||| b = a + b) : Go.bits .or .i64 (a : Int) (b : Int) = ((a + b : Nat) : Int) := by
  show IntKind.i64.wrap ((BitVec.ofInt 64 (a : Int) ||| BitVec.ofInt 64 (b : Int)).toNat : Int) = _
  rw [BitVec.ofInt_natCast, BitVec.ofInt_natCast, BitVec.toNat_or, BitVec.toNat_ofNat, BitVec.toNat_ofNat, Nat.mod_eq_of_lt (by omega), Nat.mod_eq_of_lt (by omega), e]
  exact IntWalk.i64_in _ (by omega)
theorem or_byte (x c : Nat) (hx : x < 64) (hc : c < 256) : Go.bits .or .i64 ((x : Int) * 256) (c : Int) = ((x * 256 + c : Nat) : Int) := by
  rw [show (x : Int) * 256 = ((x * 256 : Nat) : Int) by rw [Int.natCast_mul]; rfl]
  refine bits_nat_or _ _ (by omega) (by omega) ?_
  have := Nat.shiftLeft_add_eq_or_of_lt (i := 8) (a := x) (b := c) (by omega)
  rw [Nat.shiftLeft_eq] at this
  exact this.symm
theorem and_low (n k : Nat) (hn : n < 16384) (hk : k ≤ 13) : Go.bits .and .i64 (n : Int) (wrap64 (wrap64 (2 ^ k) - 1)) = ((n % 2 ^ k : Nat) : Int) := by
  have h2 : (2 : Nat) ^ k ≤ 2 ^ 13 := Nat.pow_le_pow_right (by omega) hk
  have h3 : 0 < (2 : Nat) ^ k := Nat.pow_pos (by omega)
  have e : (2 : Int) ^ k = ((2 ^ k : Nat) : Int) := by rw [Int.natCast_pow]; rfl
  have e2 : wrap64 (wrap64 (2 ^ k) - 1) = ((2 ^ k - 1 : Nat) : Int) := by
    rw [e]
    generalize (2 : Nat) ^ k = m at *
    unfold wrap64
    omega
  rw [e2, bits_nat_and _ _ (by omega) (by omega), Nat.and_two_pow_sub_one_eq_mod]
def letB (al : ByteArray) (l : List Nat) : List UInt8 := l.map fun x => al.data.toList.getD x 0
theorem letB_snoc (al : ByteArray) (o : List Nat) (q : Nat) (h : q < al.size) : Lib.byteCells (letB al (o ++ [q])) = Lib.byteCells (letB al o) ++ [.int .u8 (al[q].toNat : Int)] := by
  unfold letB
  rw [List.map_append, Lib.byteCells_append]
  congr 1
  simp only [List.map_cons, List.map_nil, Lib.byteCells]
  rw [List.getD_eq_getElem?_getD, Array.getElem?_toList, Array.getElem?_eq_getElem (show q < al.data.size from h)]
  rfl
set_option maxHeartbeats 1000000 in
theorem groups_any (s : ByteArray) (W : Nat) (al : ByteArray) (w : World) (hsm : s.size ≤ 9223372036854775807) (hs : (encI W s.data.toList 0 0).length ≤ 140737488355328) (hW : W = 4 ∨ W = 6) (ha : al.size = 2 ^ W) :
    Calls Try.prog 45 #[.string s, .int .i64 (W : Int), .string al] w fun e w' => e = .returned (.string ⟨(letB al (encI W s.data.toList 0 0)).toArray⟩) ∧ Below w.heap.size w w' := by
  have Hs := Aside0.mk hs
  have Ha := Aside0.mk ha
  have HW := Aside0.mk hW
  have w4 : (4 : Int) ≤ (W : Int) := by omega
  have w6 : (W : Int) ≤ 6 := by omega
  clear hs ha hW
  have Hbl := Aside0.mk (fresh_builder w)
  have Hbe := Aside0.mk ((Below.refl w.heap.size w).alloc (Nat.le_refl _) (.cells #[.pointer none, .slice none 0 0] 57))
  go_enter Try.func45, Try.ntmps45
  go_wp2
  go_loopw [8, 9, 13] (fun nv hv iv wr => ∃ i now have_ : Nat, ∃ o : List Nat, i ≤ s.size ∧ iv = .int .i64 i ∧ nv = .int .i64 now ∧ hv = .int .i64 have_ ∧ have_ < W ∧ now < 2 ^ have_ ∧ Aside0 (encI W s.data.toList 0 0 = o ++ encI W (s.data.toList.drop i) now have_) ∧ Aside0 (BldF w.heap.size w.heap.size (Lib.byteCells (letB al o)) wr) ∧ Aside0 (Below w.heap.size w wr)) (fun _ _ iv _ => s.size - (intOf iv).toNat)
  case atStart => exact ⟨0, 0, 0, [], Nat.zero_le _, rfl, rfl, rfl, by have := HW.out; omega, by omega, ⟨rfl⟩, Hbl, Hbe⟩
  case round =>
    clear Hbl Hbe
    obtain ⟨i, now, have_, o, hi, rfl, rfl, rfl, hh, hn, He, Hbl, Hbe⟩ := hrel
    by_cases hlt : i < s.size
    · have hnb : now < 64 := Nat.lt_of_lt_of_le hn (Nat.pow_le_pow_right (n := 2) (j := 6) (by omega) (by omega))
      have hin : (i : Int) < (s.size : Int) := by omega
      have hdr : s.data.toList.drop i = s[i] :: s.data.toList.drop (i + 1) := by
        rw [List.drop_eq_getElem_cons (by rw [Array.length_toList]; exact hlt)]
        rfl
      have hc := s[i].toNat_lt
      rw [hdr] at He
      obtain ⟨cn, hcn⟩ : ∃ cn, s[i].toNat = cn := ⟨_, rfl⟩
      obtain ⟨v, hv⟩ : ∃ v, now * 256 + cn = v := ⟨_, rfl⟩
      rw [hcn] at hc
      have hor : Go.bits .or .i64 ((now : Int) * 256) (cn : Int) = (v : Int) := by
        rw [← hv]
        exact or_byte now cn (by omega) hc
      have He2 := Aside0.mk (He.out.trans (by rw [encI_next hh, hcn, hv]))
      have hvb : v < 2 ^ (have_ + 8) := by
        rw [Nat.pow_add]; omega
      have hvc : v < 16384 := by omega
      have c1 : wrap64 (s[i].toNat : Int) = (cn : Int) := by
        rw [hcn]; unfold wrap64; omega
      clear hcn hdr hv hn He
      go_upto_region 8 with fail
      obtain ⟨wo, rfl⟩ : ∃ wo : World, wo = wr := ⟨_, rfl⟩
      go_loopw [8, 9] (fun nv hv wr => ∃ n2 h2 : Nat, ∃ o2 : List Nat, nv = .int .i64 n2 ∧ hv = .int .i64 h2 ∧ h2 ≤ 13 ∧ n2 < 16384 ∧ Aside0 (n2 < 2 ^ h2) ∧ Aside0 (encI W s.data.toList 0 0 = o2 ++ encI W (s.data.toList.drop (i + 1)) n2 h2) ∧ Aside0 (BldF w.heap.size w.heap.size (Lib.byteCells (letB al o2)) wr) ∧ Aside0 (Below w.heap.size w wr)) (fun _ hv _ => (intOf hv).toNat)
      case atStart => exact ⟨v, have_ + 8, o, rfl, by go_num, by omega, hvc, ⟨hvb⟩, He2, Hbl, Hbe⟩
      case round =>
        clear Hbl Hbe He2 hvb hvc hor c1 hc
        obtain ⟨n2, h2, o2, rfl, rfl, hh2, hn2, Hn2, He3, Hbl, Hbe⟩ := hrel
        clear hnb
        by_cases hge : W ≤ h2
        · have g1 : (W : Int) ≤ (h2 : Int) := by omega
          have g2 : (h2 : Int) ≤ 13 := by omega
          obtain ⟨q, hq⟩ : ∃ q, n2 / 2 ^ (h2 - W) = q := ⟨_, rfl⟩
          have hqi : (n2 : Int) / 2 ^ (h2 - W) = (q : Int) := by
            rw [← hq, Int.natCast_ediv, Int.natCast_pow]; rfl
          have hqs : q < al.size := by
            rw [← hq, Ha.out]
            refine Nat.div_lt_of_lt_mul ?_
            rw [← Nat.pow_add, Nat.sub_add_cancel hge]
            exact Hn2.out
          have hqsi : (q : Int) < (al.size : Int) := by omega
          have hlb : (Lib.byteCells (letB al o2)).length + 1 ≤ 140737488355328 := by
            rw [Lib.byteCells_length]
            unfold letB
            rw [List.length_map]
            have h1 := Hs.out
            rw [He3.out, encI_more (by omega) hge, List.length_append, List.length_cons] at h1
            omega
          have Hq := Aside0.mk hq
          have Hlb := Aside0.mk hlb
          clear hq hlb
          go_wp2_with fail
          refine (bld_WriteByte w.heap.size w.heap.size _ _ _ Hbl.out Hlb.out Hbe.out.size).mono ?_
          rintro e1 w2 ⟨rfl, hB1, hb1, _⟩
          have Hbl2 := Aside0.mk hB1
          have Hbe2 := Aside0.mk (Hbe.out.trans hb1)
          clear hB1 hb1
          have hr := and_low n2 (h2 - W) hn2 (by omega)
          have Hr := Aside0.mk hr
          clear hr
          go_wp2
          have hrl : n2 % 2 ^ (h2 - W) < 2 ^ (h2 - W) := Nat.mod_lt _ (Nat.pow_pos (by omega))
          refine ⟨⟨n2 % 2 ^ (h2 - W), h2 - W, o2 ++ [q], by rw [Hr.out], by go_num, by omega, Nat.lt_of_le_of_lt (Nat.mod_le _ _) hn2, ⟨hrl⟩, ⟨?_⟩, ⟨Or.inr ?_⟩, Hbe2⟩, ?_⟩
          · rw [He3.out, encI_more (by omega) hge, Hq.out, List.append_assoc]; rfl
          · have h9 := Hbl2.out
            rw [letB_snoc al o2 q hqs]
            exact h9
          · simp [intOf]; omega
        · have hgt : ¬ ((W : Int) ≤ (h2 : Int)) := by omega
          go_wp2
          go_roundw
          case rel => exact ⟨i + 1, n2, h2, o2, by omega, by go_num, rfl, rfl, by omega, Hn2.out, He3, Hbl, Hbe⟩
          case measure => simp [intOf]; omega
    · obtain rfl : i = s.size := by omega
      have hE := He.out
      rw [List.drop_eq_nil_of_le (by rw [Array.length_toList]; exact Nat.le_refl _), encI_end hh] at hE
      have HE := Aside0.mk hE
      clear hE He
      by_cases hpos : 0 < have_
      · have hnb : now < 64 := Nat.lt_of_lt_of_le hn (Nat.pow_le_pow_right (n := 2) (j := 6) (by omega) (by omega))
        have hE := HE.out
        rw [if_pos hpos] at hE
        have HE := Aside0.mk hE
        clear hE
        obtain ⟨q, hq⟩ : ∃ q, now * 2 ^ (W - have_) = q := ⟨_, rfl⟩
        have hqs : q < al.size := by
          rw [← hq, Ha.out]
          refine Nat.lt_of_lt_of_eq (Nat.mul_lt_mul_of_pos_right hn (Nat.pow_pos (by omega))) ?_
          rw [← Nat.pow_add]
          congr 1
          omega
        have hq6 : q < 64 := by
          have := HW.out
          rw [Ha.out] at hqs
          rcases this with rfl | rfl <;> omega
        have hwq : wrap64 ((now : Int) * 2 ^ (W - have_)) = (q : Int) := by
          rw [show (now : Int) * 2 ^ (W - have_) = (q : Int) by rw [← hq, Int.natCast_mul, Int.natCast_pow]; rfl]
          unfold wrap64; omega
        have hlb : (Lib.byteCells (letB al o)).length + 1 ≤ 140737488355328 := by
          rw [Lib.byteCells_length]
          unfold letB
          rw [List.length_map]
          have h1 := Hs.out
          rw [HE.out, List.length_append] at h1
          exact h1
        have Hlb := Aside0.mk hlb
        clear hlb
        have hqsi : (q : Int) < (al.size : Int) := by omega
        have g1 : (have_ : Int) < (W : Int) := by omega
        have g2 : (0 : Int) < (have_ : Int) := by omega
        have Hq := Aside0.mk hq
        clear hq hn
        go_wp2_with fail
        refine (bld_WriteByte w.heap.size w.heap.size _ _ _ Hbl.out Hlb.out Hbe.out.size).mono ?_
        rintro e1 w2 ⟨rfl, hB1, hb1, _⟩
        have Hbl2 := Aside0.mk (show BldF w.heap.size w.heap.size (Lib.byteCells (letB al (o ++ [q]))) w2 by rw [letB_snoc al o q hqs]; exact Or.inr hB1)
        have Hbe2 := Aside0.mk (Hbe.out.trans hb1)
        clear hB1 hb1
        go_wp2_with fail
        refine (Try.Builder_String_any_f w.heap.size w.heap.size _ _ Hbl2.out Hbe2.out.size).mono ?_
        rintro e2 w5 ⟨rfl, _, hb1⟩
        have Hbe3 := Aside0.mk (Hbe2.out.trans hb1)
        clear hb1
        go_wp2
        go_ret
        refine ⟨?_, Hbe3.out⟩
        rw [HE.out, Hq.out]
        rfl
      · obtain rfl : have_ = 0 := by omega
        have hE := HE.out
        rw [if_neg (by omega), List.append_nil] at hE
        have HE := Aside0.mk hE
        clear hE
        go_wp2_with fail
        refine (Try.Builder_String_any_f w.heap.size w.heap.size _ _ Hbl.out Hbe.out.size).mono ?_
        rintro e2 w5 ⟨rfl, _, hb1⟩
        have Hbe3 := Aside0.mk (Hbe.out.trans hb1)
        clear hb1
        go_wp2
        go_ret
        refine ⟨?_, Hbe3.out⟩
        rw [HE.out]
        rfl
end Sha
end Go.Proofs.Ytililaifppblhaa
