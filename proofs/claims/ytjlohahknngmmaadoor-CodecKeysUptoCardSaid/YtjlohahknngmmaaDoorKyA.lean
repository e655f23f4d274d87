/- Walks of codec: text (a part's text, back), strings.ReplaceAll of the byte 0. -/
import Derived.Test.YtjlohahknngmmaaDoorKyP
import Derived.Test.YtjlohahknngmmaaDoorBld
import Derived.Outline
import Derived.IntWalk
import Derived.BigQuiet
import Derived.RegionTactic
import Derived.Deep.QuietTactic
namespace Go.Proofs.YtjlohahknngmmaaDoor.Ky
open Go Go.RowKit Go.Proofs.YtjlohahknngmmaaDoor Go.Proofs.YtjlohahknngmmaaDoorW.PrintWords
set_option linter.unusedVariables false
set_option linter.unusedSimpArgs false

theorem fresh_builder (w : World) : BldF w.heap.size w.heap.size [] (w.alloc (.cells #[.pointer none, .slice none 0 0] 49)) := Lib.IsBuilderF.of (Lib.fresh_isBuilder 49 5 w)
theorem bld_below {B b : Nat} {bs : List Value} {w w1 : World} (h : BldF B b bs w) (hb : Below w.heap.size w w1) : BldF B b bs w1 := by
  have hg : w.grownBy w1 none := ⟨hb.os, hb.tape, hb.output, hb.size, fun k hk _ => hb.block k hk⟩
  rcases h with h | h
  · have hlt := h.lt
    obtain ⟨hB, v, h1, hown, hne⟩ := h
    exact .inl ⟨hB, v, (hb.block _ hlt).trans h1, hown.kept hg (by cases hv : v.ownBlock <;> simp), hne⟩
  · have hlt := h.lt
    obtain ⟨hB, v, h1, hown, hne⟩ := h
    exact .inr ⟨hB, v, (hb.block _ hlt).trans h1, hown.kept hg (by cases hv : v.ownBlock <;> simp), hne⟩
theorem bld_lt {B b : Nat} {bs : List Value} {w : World} (h : BldF B b bs w) : b < w.heap.size := by
  rcases h with h | h <;> exact h.lt
/-- WriteString, of bytes. -/
theorem write_any (B b : Nat) (l : List UInt8) (s : ByteArray) (w : World) (h : BldF B b (Lib.byteCells l) w) (hlen : l.length + s.size ≤ 140737488355328) (hBw : B ≤ w.heap.size) :
    Calls Tryd.prog 25 #[.pointer (some ⟨b, 0, none⟩), .string s] w fun e w' => e = .returned (.tuple #[.int .i64 s.size, .nilIface]) ∧ BldF B b (Lib.byteCells (l ++ s.data.toList)) w' ∧ Below B w w' := by
  refine (bld_WriteString B b _ s w h (by rw [Lib.byteCells_length]; exact hlen) hBw).mono ?_
  rintro e w' ⟨h1, h2, h3, _⟩
  refine ⟨h1, ?_, h3⟩
  rw [Lib.strCells_eq, ← Lib.byteCells_append] at h2
  exact .inr h2

set_option maxHeartbeats 2000000 in
theorem bld_WriteByte (B b : Nat) (bs : List Value) (c : Int) (w : World) (h : BldF B b bs w) (hlen : bs.length + 1 ≤ 140737488355328) (hBw : B ≤ w.heap.size) :
    Calls Tryd.prog 26 #[.pointer (some ⟨b, 0, none⟩), .int .u8 c] w fun e w' => e = .returned .nilIface ∧ BldAt B b (bs ++ [.int .u8 c]) w' ∧ Below B w w' ∧ Lib.OthersKept 5 (some b) w w' := by
  obtain ⟨i0, hi, hz0, hz1, hz2⟩ := info_parts infoByte
  go_enter Tryd.func26, Tryd.ntmps26
  go_wp2_with (go_at_call 40; refine (bld_copyCheck B b bs _ h).mono ?_)
  rintro e w1 ⟨rfl, h1, hb1, hk1⟩
  obtain ⟨hB, v, hbk, hown, hne⟩ := h1
  have c0 : w1.cell? ⟨b, 0, none⟩ = some (.pointer (some ⟨b, 0, none⟩)) := by rw [Lib.cell_of_heap hbk]; rfl
  have c1 : w1.cell? ⟨b, 1, none⟩ = some v := by rw [Lib.cell_of_heap hbk]; rfl
  go_wp2_with (at_builtin; refine wpList_append_ownF _ rfl _ _ 47 rfl B 5 i0 (.int .u8 0) 1 1 Tryd.underlying47 hi hz0 hz1 hz2 rfl (by decide) _ _ _ rfl (hown.alloc _) ⟨w1.heap.size, 0, none⟩ 1 1 [.int .u8 c] rfl rfl ?c1 ?c2 ?c3 ?c4 ?c5 ?_)
  case c1 =>
    intro j u hj
    match j, hj with
    | 0, hj => simp at hj; subst hj; simp [Addr.add]
  case c2 => intro u hu; simp at hu; subst hu; rfl
  case c3 => unfold maxLen; omega
  case c4 => omega
  case c5 => have := hb1.size; simp; omega
  intro v' w2 hown' hgrow _
  have hlt : b < w1.heap.size := by
    rcases Nat.lt_or_ge b w1.heap.size with h' | h'
    · exact h'
    · simp [Array.getElem?_eq_none h'] at hbk
  have hb2 : w2.heap[b]? = some (.cells #[.pointer (some ⟨b, 0, none⟩), v] 49 (0, 0)) := by
    rw [hgrow.block b (by simp; omega) (fun e => hne e.symm), Lib.alloc_old w1 _ b hlt]
    exact hbk
  have d0 : w2.cell? ⟨b, 0, none⟩ = some (.pointer (some ⟨b, 0, none⟩)) := by rw [Lib.cell_of_heap hb2]; rfl
  have d1 : w2.cell? ⟨b, 1, none⟩ = some v := by rw [Lib.cell_of_heap hb2]; rfl
  have f1 : w2.frozen? ⟨b, 1, none⟩ = false := Lib.frozen_of_heap hb2 1
  obtain ⟨g, cap, rfl⟩ : ∃ g cap, v' = .slice (some ⟨g, 0, none⟩) (bs.length + 1) cap := by
    rcases hown'.2 with ⟨_, h0⟩ | ⟨g, cap, cur, fz, hv, _⟩
    · omega
    · exact ⟨g, cap, hv⟩
  go_wp2
  go_ret
  refine ⟨rfl, ?_, ?_, ((hk1.alloc _).grown hgrow (Lib.ownsRowF_kind (hown.alloc _))).setCell ⟨b, 1, none⟩ rfl _⟩
  · exact Lib.BuilderAtF.put (T := 49) (e := 5) hB hb2 (bs' := bs ++ [.int .u8 c]) (by simpa using hown') (by decide)
  · exact ((hb1.alloc (by have := hb1.size; omega) _).grown hgrow (by have := hb1.size; simp; omega) (fun k hk => (hown.lt k hk).1)).setCell (p := ⟨b, 1, none⟩) hB _

theorem writeB_any (B b : Nat) (l : List UInt8) (c : UInt8) (w : World) (h : BldF B b (Lib.byteCells l) w) (hlen : l.length + 1 ≤ 140737488355328) (hBw : B ≤ w.heap.size) :
    Calls Tryd.prog 26 #[.pointer (some ⟨b, 0, none⟩), .int .u8 (c.toNat : Int)] w fun e w' => e = .returned .nilIface ∧ BldF B b (Lib.byteCells (l ++ [c])) w' ∧ Below B w w' ∧ Lib.OthersKept 5 (some b) w w' := by
  refine (bld_WriteByte B b _ (c.toNat : Int) w h (by rw [Lib.byteCells_length]; exact hlen) hBw).mono ?_
  rintro e w' ⟨h1, h2, h3, h4⟩
  refine ⟨h1, ?_, h3, h4⟩
  rw [show ([.int .u8 (c.toNat : Int)] : List Value) = Lib.byteCells [c] from rfl, ← Lib.byteCells_append] at h2
  exact .inr h2
/-! ### A byte's first place -/
theorem ix_neg : ∀ l : List UInt8, (0 : UInt8) ∉ l → Lib.indexByte l 0 = -1
  | [], _ => rfl
  | c :: l, h => by
    have h1 : (c == 0) = false := beq_eq_false_iff_ne.2 (fun e => h (by simp [e]))
    unfold Lib.indexByte
    rw [h1, ix_neg l (fun e => h (List.mem_cons_of_mem _ e))]; rfl
theorem ix_split : ∀ l : List UInt8, (0 : UInt8) ∈ l → ∃ a b, l = a ++ 0 :: b ∧ (0 : UInt8) ∉ a ∧ Lib.indexByte l 0 = (a.length : Int)
  | [], h => by cases h
  | c :: l, h => by
    by_cases h0 : c = 0
    · subst h0
      exact ⟨[], l, rfl, by simp, rfl⟩
    · obtain ⟨a, b, h1, h2, h3⟩ := ix_split l (by simpa [Ne.symm h0] using h)
      refine ⟨c :: a, b, by rw [h1]; rfl, by simp [h2, Ne.symm h0], ?_⟩
      unfold Lib.indexByte
      rw [beq_eq_false_iff_ne.2 h0, h3, beq_eq_false_iff_ne.2 (by omega)]
      simp
theorem ext_data (s : ByteArray) (i j : Nat) : (s.extract i j).data.toList = (s.data.toList.take j).drop i := by
  rw [ByteArray.data_extract, Array.toList_extract, List.extract_eq_take_drop, List.drop_take]
def szOf : Value → Nat
  | .string s => s.size
  | _ => 0
theorem szOf_s (s : ByteArray) : szOf (.string s) = s.size := rfl
theorem sz_len (s : ByteArray) : s.data.toList.length = s.size := Array.length_toList

/-! ### A part's text, back -/
def textRes (s : ByteArray) : ByteArray × ByteArray × Bool :=
  match unesc s.data.toList with
  | none => (⟨#[]⟩, ⟨#[]⟩, false)
  | some (t, r) => (⟨t.toArray⟩, ⟨r.toArray⟩, true)
theorem hasPre (l : List UInt8) : Lib.hasPrefix (0 :: l) [0, 255] = decide (l.head? = some 255) := by
  cases l with
  | nil => rfl
  | cons c l =>
    show (([0, 255] : List UInt8).isPrefixOf (0 :: c :: l)) = _
    simp [List.isPrefixOf]
    by_cases h : c = 255
    · subst h; rfl
    · rw [decide_eq_false h]; simp [Ne.symm h]
set_option maxHeartbeats 4000000 in
set_option maxRecDepth 100000 in
theorem text_any (s : ByteArray) (w : World) (hs : s.size ≤ 140737488351232) :
    Calls Tryd.prog 32 #[.string s] w fun e w' => e = .returned (.tuple #[.string (textRes s).1, .string (textRes s).2.1, .bool (textRes s).2.2]) ∧ Below w.heap.size w w' := by
  have Hbl := Aside0.mk (fresh_builder w)
  have Hbe := Aside0.mk ((Below.refl w.heap.size w).alloc (Nat.le_refl _) (.cells #[.pointer none, .slice none 0 0] 49))
  go_enter Tryd.func32, Tryd.ntmps32
  go_wp2
  go_loopw [0] (fun sv wr => ∃ (S : ByteArray) (acc : List UInt8), sv = .string S ∧ S.size + acc.length ≤ 140737488351232 ∧ Aside0 (unesc s.data.toList = (unesc S.data.toList).map fun x => (acc ++ x.1, x.2)) ∧ Aside0 (BldF w.heap.size w.heap.size (Lib.byteCells acc) wr) ∧ Aside0 (Below w.heap.size w wr)) (fun sv _ => szOf sv)
  case atStart => exact ⟨s, [], rfl, by simpa using hs, ⟨by simp⟩, Hbl, Hbe⟩
  case round =>
    clear Hbl Hbe
    obtain ⟨S, acc, rfl, hsz, HU, HBl, HBe⟩ := hrel
    by_cases hz : (0 : UInt8) ∈ S.data.toList
    · obtain ⟨a, b, hab, ha, hi⟩ := ix_split _ hz
      have hlen : S.size = a.length + 1 + b.length := by rw [← sz_len, hab]; simp; omega
      have hix := Tryd.strings_Index_one S 0
      rw [hi] at hix
      have Hix := Aside0.mk hix
      have hpre := Tryd.strings_HasPrefix (S.extract a.length S.size) ⟨#[0, 255]⟩
      have e1 : (S.extract a.length S.size).data.toList = 0 :: b := by
        rw [ext_data, ← sz_len, List.take_length, hab, List.drop_append_of_le_length (Nat.le_refl _), List.drop_length]; rfl
      rw [e1, hasPre] at hpre
      have Hpre := Aside0.mk hpre
      have e2 : (S.extract 0 a.length).data.toList = a := by rw [ext_data, hab, List.take_append_of_le_length (Nat.le_refl _), List.take_length]; rfl
      have e3 : (S.extract (a.length + 1) S.size).data.toList = b := by
        rw [ext_data, ← sz_len, List.take_length, hab, ← List.drop_drop, List.drop_append_of_le_length (Nat.le_refl _), List.drop_length]; rfl
      have H2 := Aside0.mk e2
      have H3 := Aside0.mk e3
      have HAB := Aside0.mk hab
      have HA := Aside0.mk ha
      have c1 : (0 : Int) ≤ (a.length : Int) := by omega
      have c2 : (a.length : Int) ≤ (S.size : Int) := by omega
      clear hix hpre e1 e2 e3 hab ha hi hz
      obtain ⟨n, hn⟩ : ∃ n, a.length = n := ⟨_, rfl⟩
      have HN := Aside0.mk hn
      rw [hn] at Hix Hpre H2 H3 c1 c2 hlen
      clear hn
      have HW := Aside0.mk (write_any w.heap.size w.heap.size acc (S.extract 0 n) wr HBl.out (by rw [ByteArray.size_extract]; omega) HBe.out.size)
      rw [H2.out] at HW
      have d1 : IntKind.i64.wrap ((n : Int) + 1) = (n : Int) + 1 := IntWalk.i64_in _ (by omega)
      have d2 : (0 : Int) ≤ (n : Int) + 1 := by omega
      have d3 : ((n : Int) + 1).toNat = n + 1 := by omega
      have d4 : (n : Int) + 1 ≤ (S.size : Int) := by omega
      have d5 : (0 : Int) ≤ (n : Int) + 2 := by omega
      have d6 : ((n : Int) + 2).toNat = n + 2 := by omega
      have hlt : n < S.size := by omega
      by_cases hff : b.head? = some 255
      · have hb1 : decide (b.head? = some 255) = true := decide_eq_true hff
        rw [hb1] at Hpre
        clear hb1
        obtain ⟨c, rfl⟩ : ∃ c, b = 255 :: c := by
          cases b with
          | nil => cases hff
          | cons x c => simp at hff; subst hff; exact ⟨c, rfl⟩
        have hl2 : S.size = n + 2 + c.length := by rw [hlen]; simp; omega
        have d7 : (n : Int) + 2 ≤ (S.size : Int) := by omega
        have HL2 := Aside0.mk hl2
        clear hl2
        have H4 := Aside0.mk (show (S.extract (n + 2) S.size).data.toList = c by
          have h := H3.out
          rw [ext_data, ← sz_len, List.take_length] at h ⊢
          rw [show n + 2 = n + 1 + 1 by omega, ← List.drop_drop, h]; rfl)
        have HU2 := Aside0.mk (show unesc s.data.toList = (unesc c).map fun x => (acc ++ a ++ [0] ++ x.1, x.2) by
          rw [HU.out, HAB.out, unesc_pre _ _ HA.out, unesc_ff]
          cases unesc c <;> simp)
        clear hff hlen d1 d2 d3 d4 H3
        go_wp2_with fail
        refine (Hix.out _).mono ?_
        rintro e w1 ⟨rfl, rfl⟩
        go_wp2_with fail
        refine HW.out.mono ?_
        rintro e w2 ⟨rfl, hbl2, hbe2⟩
        have HBl2 := Aside0.mk hbl2
        have HBe2 := Aside0.mk (HBe.out.trans hbe2)
        clear hbl2 hbe2
        go_wp2_with fail
        refine (Hpre.out _).mono ?_
        rintro e w3 ⟨rfl, rfl⟩
        go_wp2_with fail
        refine (write_any w.heap.size w.heap.size (acc ++ a) ⟨#[0]⟩ _ HBl2.out (by show (acc ++ a).length + 1 ≤ _; rw [List.length_append, HN.out]; omega) HBe2.out.size).mono ?_
        rintro e w4 ⟨rfl, hbl3, hbe3⟩
        have HBl3 := Aside0.mk (show BldF w.heap.size w.heap.size (Lib.byteCells (acc ++ a ++ [0])) w4 from hbl3)
        have HBe3 := Aside0.mk (HBe2.out.trans hbe3)
        clear hbl3 hbe3
        go_wp2
        go_roundw
        case rel =>
          have hl2 := HL2.out
          exact ⟨_, acc ++ a ++ [0], rfl, by rw [List.length_append, List.length_append, HN.out, ← sz_len, H4.out]; show c.length + (_ + 1) ≤ _; omega, ⟨by rw [H4.out]; exact HU2.out⟩, HBl3, HBe3⟩
        case measure => have hl2 := HL2.out; rw [szOf_s, szOf_s, ← sz_len, H4.out]; omega
      · have hb1 : decide (b.head? = some 255) = false := decide_eq_false hff
        rw [hb1] at Hpre
        clear hb1
        have HR := Aside0.mk (show textRes s = (⟨(acc ++ a).toArray⟩, S.extract (n + 1) S.size, true) by
          unfold textRes
          rw [HU.out, HAB.out, unesc_pre _ _ HA.out, unesc_z hff]
          simp only [Option.map_some, List.append_nil]
          rw [← H3.out])
        clear hff hlen
        go_wp2_with fail
        refine (Hix.out _).mono ?_
        rintro e w1 ⟨rfl, rfl⟩
        go_wp2_with fail
        refine HW.out.mono ?_
        rintro e w2 ⟨rfl, hbl2, hbe2⟩
        have HBl2 := Aside0.mk hbl2
        have HBe2 := Aside0.mk (HBe.out.trans hbe2)
        clear hbl2 hbe2
        go_wp2_with fail
        refine (Hpre.out _).mono ?_
        rintro e w3 ⟨rfl, rfl⟩
        have HBl3 := Aside0.mk (show BldF w.heap.size w.heap.size (Lib.byteCells (acc ++ a)) w3.drew from HBl2.out)
        have HBe3 := Aside0.mk (show Below w.heap.size w w3.drew from (HBe2.out.trans (below_drew1 (Below.refl _ _))))
        go_wp2
        go_region_with (first | (go_at_call 28; refine (Tryd.Builder_String_any_f w.heap.size w.heap.size (acc ++ a) _ HBl3.out HBe3.out.size).mono ?_; rintro e w4 ⟨rfl, _, hb4⟩; have HB4 := Aside0.mk (HBe3.out.trans hb4); clear hb4))
        all_goals
          go_wp2
          go_ret3
          rw [HR.out]
          exact ⟨rfl, HB4.out⟩
    · have hix := Tryd.strings_Index_one S 0
      rw [ix_neg _ hz] at hix
      have HR := Aside0.mk (show textRes s = (⟨#[]⟩, ⟨#[]⟩, false) by
        unfold textRes
        rw [HU.out, unesc_none _ hz]; rfl)
      have Hix := Aside0.mk hix
      clear hix hz
      go_wp2_with fail
      refine (Hix.out _).mono ?_
      rintro e w1 ⟨rfl, rfl⟩
      go_wp2
      go_ret3
      rw [HR.out]
      exact ⟨rfl, HBe.out⟩
end Go.Proofs.YtjlohahknngmmaaDoor.Ky
