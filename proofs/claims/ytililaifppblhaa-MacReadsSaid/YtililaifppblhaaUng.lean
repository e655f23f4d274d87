/- Walks: letters as bytes (mac.ungrouped). -/
import Derived.Test.YtililaifppblhaaGrp
namespace Go.Proofs.Ytililaifppblhaa.Sha
open Go Go.RowKit Go.Proofs.Ytililaifppblhaa Go.Proofs.YtililaifppblhaaW.PrintWords
set_option linter.unusedVariables false
set_option linter.unusedSimpArgs false

/-- What letters tell. -/
def decG (W : Nat) (al : List UInt8) : List UInt8 → Nat → Nat → Option (List UInt8)
  | [], now, have_ => if W ≤ have_ ∨ now ≠ 0 then none else some []
  | c :: l, now, have_ =>
    if Lib.indexByte al c < 0 then none
    else if 8 ≤ have_ + W then (decG W al l ((now * 2 ^ W + (Lib.indexByte al c).toNat) % 2 ^ (have_ + W - 8)) (have_ + W - 8)).map (b8 ((now * 2 ^ W + (Lib.indexByte al c).toNat) / 2 ^ (have_ + W - 8)) :: ·)
    else decG W al l (now * 2 ^ W + (Lib.indexByte al c).toNat) (have_ + W)
def decRes (r : Option (List UInt8)) : ByteArray × Bool := match r with
  | some b => (⟨b.toArray⟩, true)
  | none => (⟨#[]⟩, false)
def RetDec (r : Option (List UInt8)) (e : Ending) : Prop := e = .returned (.tuple #[.string (decRes r).1, .bool (decRes r).2])
theorem decG_nil (W : Nat) (al : List UInt8) (now have_ : Nat) : decG W al [] now have_ = if W ≤ have_ ∨ now ≠ 0 then none else some [] := rfl
theorem decG_no {W : Nat} {al : List UInt8} {c : UInt8} (l : List UInt8) (now have_ : Nat) (h : Lib.indexByte al c < 0) : decG W al (c :: l) now have_ = none := by
  rw [decG, if_pos h]
theorem decG_out {W : Nat} {al : List UInt8} {c : UInt8} {k v h2 : Nat} (l : List UInt8) (now have_ : Nat) (h : Lib.indexByte al c = (k : Int)) (h8 : 8 ≤ have_ + W) (hv : now * 2 ^ W + k = v) (hh : have_ + W - 8 = h2) : decG W al (c :: l) now have_ = (decG W al l (v % 2 ^ h2) h2).map (b8 (v / 2 ^ h2) :: ·) := by
  rw [decG, if_neg (by omega), if_pos h8, h, Int.toNat_natCast, hv, hh]
theorem decG_on {W : Nat} {al : List UInt8} {c : UInt8} {k v : Nat} (l : List UInt8) (now have_ : Nat) (h : Lib.indexByte al c = (k : Int)) (h8 : ¬ 8 ≤ have_ + W) (hv : now * 2 ^ W + k = v) : decG W al (c :: l) now have_ = decG W al l v (have_ + W) := by
  rw [decG, if_neg (by omega), if_neg h8, h, Int.toNat_natCast, hv]
theorem indexByte_lt : ∀ (l : List UInt8) (c : UInt8), Lib.indexByte l c < (l.length : Int)
  | [], c => by show (-1 : Int) < 0; omega
  | b :: l, c => by
    have := indexByte_lt l c
    unfold Lib.indexByte
    rw [List.length_cons]
    split
    · omega
    · split <;> omega
theorem or_low (a k W : Nat) (ha : a < 128) (hk : k < 2 ^ W) (hW : W ≤ 6) : Go.bits .or .i64 (wrap64 ((a : Int) * 2 ^ W)) (k : Int) = ((a * 2 ^ W + k : Nat) : Int) := by
  have h2 : (2 : Nat) ^ W ≤ 2 ^ 6 := Nat.pow_le_pow_right (by omega) hW
  have h3 : a * 2 ^ W ≤ 128 * 64 := Nat.mul_le_mul (by omega) h2
  have e : (a : Int) * 2 ^ W = ((a * 2 ^ W : Nat) : Int) := by rw [Int.natCast_mul, Int.natCast_pow]; rfl
  have e2 : wrap64 ((a : Int) * 2 ^ W) = ((a * 2 ^ W : Nat) : Int) := by
    rw [e]
    generalize a * 2 ^ W = m at *
    unfold wrap64
    omega
  rw [e2]
  refine bits_nat_or _ _ (by omega) (by omega) ?_
  have := Nat.shiftLeft_add_eq_or_of_lt (i := W) (a := a) (b := k) hk
  rw [Nat.shiftLeft_eq] at this
  exact this.symm
theorem bytes_snoc (o : List UInt8) (m : Nat) (x : Int) (h : x = ((b8 m).toNat : Int)) : Lib.byteCells o ++ [.int .u8 x] = Lib.byteCells (o ++ [b8 m]) := by
  rw [Lib.byteCells_append, h]; rfl
theorem byte_of (v k : Nat) : ((v : Int) / 2 ^ k) % 256 = ((b8 (v / 2 ^ k)).toNat : Int) := by
  rw [b8_nat, show (v : Int) / 2 ^ k = ((v / 2 ^ k : Nat) : Int) by rw [Int.natCast_ediv, Int.natCast_pow]; rfl]
  generalize v / 2 ^ k = m
  omega
theorem map_snoc (o : List UInt8) (b : UInt8) (r : Option (List UInt8)) : (r.map (b :: ·)).map (o ++ ·) = r.map ((o ++ [b]) ++ ·) := by
  cases r <;> simp
set_option maxHeartbeats 1000000 in
theorem ungrouped_any (s : ByteArray) (W : Nat) (al : ByteArray) (w : World) (hs : s.size ≤ 140737488355328) (hW : W = 4 ∨ W = 6) (ha : al.size = 2 ^ W) :
    Calls Try.prog 44 #[.string s, .int .i64 (W : Int), .string al] w fun e w' => RetDec (decG W al.data.toList s.data.toList 0 0) e ∧ Below w.heap.size w w' := by
  have Hs := Aside0.mk hs
  have Ha := Aside0.mk ha
  have HW := Aside0.mk hW
  have w4 : (4 : Int) ≤ (W : Int) := by omega
  have w6 : (W : Int) ≤ 6 := by omega
  have hsm : s.size ≤ 9223372036854775807 := by omega
  clear hs ha hW
  have Hbl := Aside0.mk (fresh_builder w)
  have Hbe := Aside0.mk ((Below.refl w.heap.size w).alloc (Nat.le_refl _) (.cells #[.pointer none, .slice none 0 0] 57))
  go_enter Try.func44, Try.ntmps44
  go_wp2
  go_loopw [9, 10, 15] (fun nv hv iv wr => ∃ i now have_ : Nat, ∃ o : List UInt8, i ≤ s.size ∧ iv = .int .i64 i ∧ nv = .int .i64 now ∧ hv = .int .i64 have_ ∧ have_ < 8 ∧ now < 2 ^ have_ ∧ Aside0 (decG W al.data.toList s.data.toList 0 0 = (decG W al.data.toList (s.data.toList.drop i) now have_).map (o ++ ·)) ∧ Aside0 (o.length ≤ i) ∧ Aside0 (BldF w.heap.size w.heap.size (Lib.byteCells o) wr) ∧ Aside0 (Below w.heap.size w wr)) (fun _ _ iv _ => s.size - (intOf iv).toNat)
  case atStart => exact ⟨0, 0, 0, [], Nat.zero_le _, rfl, rfl, rfl, by omega, by omega, ⟨by simp⟩, ⟨Nat.zero_le _⟩, Hbl, Hbe⟩
  case round =>
    clear Hbl Hbe
    obtain ⟨i, now, have_, o, hi, rfl, rfl, rfl, hh, hn, He, Hl, Hbl, Hbe⟩ := hrel
    have hnb : now < 128 := Nat.lt_of_lt_of_le hn (Nat.pow_le_pow_right (n := 2) (j := 7) (by omega) (by omega))
    by_cases hlt : i < s.size
    · have hin : (i : Int) < (s.size : Int) := by omega
      have hdr : s.data.toList.drop i = s[i] :: s.data.toList.drop (i + 1) := by
        rw [List.drop_eq_getElem_cons (by rw [Array.length_toList]; exact hlt)]
        rfl
      rw [hdr] at He
      clear hdr
      have hix := Try.strings_IndexByte al (s[i].toNat : Int)
      rw [show ((s[i].toNat : Int)).toNat.toUInt8 = s[i] by rw [Int.toNat_natCast]; simp] at hix
      have hxl := indexByte_lt al.data.toList s[i]
      obtain ⟨x, hx⟩ : ∃ x, Lib.indexByte al.data.toList s[i] = x := ⟨_, rfl⟩
      rw [hx] at hix hxl
      have Hix := Aside0.mk hix
      have Hx := Aside0.mk hx
      have hxl2 : x < 64 ∧ x < ((2 ^ W : Nat) : Int) := by
        rw [Array.length_toList] at hxl
        have e : al.data.size = al.size := rfl
        have := Ha.out
        have h9 := HW.out
        rcases h9 with rfl | rfl <;> omega
      clear hix hx hxl
      by_cases hneg : x < 0
      · have hE := He.out
        rw [decG_no _ _ _ (by rw [Hx.out]; exact hneg)] at hE
        have HE := Aside0.mk hE
        clear hE
        go_wp2_with (go_at_call 56; refine (Hix.out _).mono ?_; rintro e1 w2 ⟨rfl, rfl⟩)
        go_ret2
        exact ⟨by unfold RetDec; rw [HE.out]; rfl, Hbe.out⟩
      · obtain ⟨k, hk⟩ : ∃ k : Nat, x = (k : Int) := ⟨x.toNat, by omega⟩
        subst hk
        have kl : k < 64 := by omega
        have kw : k < 2 ^ W := by have := hxl2.2; omega
        clear hxl2
        obtain ⟨v, hv⟩ : ∃ v, now * 2 ^ W + k = v := ⟨_, rfl⟩
        have hov : Go.bits .or .i64 (wrap64 ((now : Int) * 2 ^ W)) (k : Int) = (v : Int) := by
          rw [← hv]
          exact or_low now k W hnb kw (by omega)
        have hvb : v < 2 ^ (have_ + W) := by
          have h1 : now * 2 ^ W + 2 ^ W ≤ 2 ^ have_ * 2 ^ W := by
            rw [← Nat.succ_mul]
            exact Nat.mul_le_mul_right _ hn
          rw [Nat.pow_add, ← hv]
          exact Nat.lt_of_lt_of_le (Nat.add_lt_add_left kw _) h1
        have hvc : v < 16384 := Nat.lt_of_lt_of_le hvb (Nat.pow_le_pow_right (n := 2) (j := 14) (by omega) (by omega))
        have Hvb := Aside0.mk hvb
        by_cases h8 : 8 ≤ have_ + W
        · have hE := He.out
          rw [decG_out _ now have_ Hx.out h8 hv rfl, map_snoc] at hE
          have HE := Aside0.mk hE
          have hlb : (Lib.byteCells o).length + 1 ≤ 140737488355328 := by
            rw [Lib.byteCells_length]
            have := Hl.out
            have := Hs.out
            omega
          have Hlb := Aside0.mk hlb
          have h8i : (8 : Int) ≤ (have_ : Int) + (W : Int) := by omega
          have hq : ((v : Int) / 2 ^ (have_ + W - 8)) % 256 = ((b8 (v / 2 ^ (have_ + W - 8))).toNat : Int) := byte_of v _
          have Hq := Aside0.mk hq
          have hr := and_low v (have_ + W - 8) hvc (by omega)
          have Hr := Aside0.mk hr
          clear hE hlb hv hvb hq hr He
          go_wp2_with (go_at_call 56; refine (Hix.out _).mono ?_; rintro e1 w2 ⟨rfl, rfl⟩)
          refine (bld_WriteByte w.heap.size w.heap.size _ _ _ Hbl.out Hlb.out Hbe.out.size).mono ?_
          rintro e1 w3 ⟨rfl, hB1, hb1, _⟩
          rw [bytes_snoc _ _ _ Hq.out] at hB1
          have Hbl2 := Aside0.mk hB1
          have Hbe2 := Aside0.mk (Hbe.out.trans hb1)
          clear hB1 hb1
          go_wp2
          have hrl : v % 2 ^ (have_ + W - 8) < 2 ^ (have_ + W - 8) := Nat.mod_lt _ (Nat.pow_pos (by omega))
          refine ⟨⟨i + 1, v % 2 ^ (have_ + W - 8), have_ + W - 8, o ++ [b8 (v / 2 ^ (have_ + W - 8))], by omega, by go_num, by rw [Hr.out], by go_num, by omega, hrl, HE, ⟨?_⟩, ⟨Or.inr Hbl2.out⟩, Hbe2⟩, ?_⟩
          · have := Hl.out; rw [List.length_append]; simp; omega
          · simp [intOf]; omega
        · have hE := He.out
          rw [decG_on _ now have_ Hx.out h8 hv] at hE
          have HE := Aside0.mk hE
          have h8i : ¬ ((8 : Int) ≤ (have_ : Int) + (W : Int)) := by omega
          clear hE hv hvb He
          go_wp2_with (go_at_call 56; refine (Hix.out _).mono ?_; rintro e1 w2 ⟨rfl, rfl⟩)
          refine ⟨⟨i + 1, v, have_ + W, o, by omega, by go_num, rfl, by go_num, by omega, Hvb.out, HE, ⟨?_⟩, Hbl, Hbe⟩, ?_⟩
          · have := Hl.out; omega
          · simp [intOf]; omega
    · obtain rfl : i = s.size := by omega
      have hE := He.out
      rw [List.drop_eq_nil_of_le (by rw [Array.length_toList]; exact Nat.le_refl _), decG_nil] at hE
      have HE := Aside0.mk hE
      clear hE He
      by_cases hw : W ≤ have_
      · have hE := HE.out
        rw [if_pos (Or.inl hw)] at hE
        have HE := Aside0.mk hE
        have g1 : (W : Int) ≤ (have_ : Int) := by omega
        clear hE
        go_wp2
        go_ret2
        exact ⟨by unfold RetDec; rw [HE.out]; rfl, Hbe.out⟩
      · have g1 : (have_ : Int) < (W : Int) := by omega
        have g2 : ¬ ((W : Int) ≤ (have_ : Int)) := by omega
        by_cases hz : now = 0
        · subst hz
          have hE := HE.out
          rw [if_neg (by omega)] at hE
          have HE := Aside0.mk hE
          clear hE
          go_wp2_with fail
          refine (Try.Builder_String_any_f w.heap.size w.heap.size _ _ Hbl.out Hbe.out.size).mono ?_
          rintro e2 w5 ⟨rfl, _, hb1⟩
          have Hbe3 := Aside0.mk (Hbe.out.trans hb1)
          clear hb1
          go_wp2
          go_ret2
          exact ⟨by unfold RetDec; rw [HE.out]; simp [decRes], Hbe3.out⟩
        · have hE := HE.out
          rw [if_pos (Or.inr hz)] at hE
          have HE := Aside0.mk hE
          have z1 : ¬ ((now : Int) = 0) := by omega
          have z2 : ((now : Int) != 0) = true := by simpa using hz
          clear hE
          go_wp2
          go_ret2
          exact ⟨by unfold RetDec; rw [HE.out]; rfl, Hbe.out⟩
end Go.Proofs.Ytililaifppblhaa.Sha
