/- Walk: the reference's Escape (its two-digit line draws its order). -/
import Derived.Test.YtkekkabelnmlnaaTxD
import Derived.Lib.SmallJoins
import Derived.Test.YtkekkabelnmlnaaPAx1
import Derived.RegionTactic
import Derived.ChangeAlike
import Derived.BigRegion
namespace Go.Proofs.Ytkekkabelnmlnaa
open Go Go.RowKit Go.Proofs.YtkekkabelnmlnaaW.PrintWords Go.Proofs.Ytkekkabelnmlnaa.PA
set_option linter.unusedVariables false

def hexAt (n : Nat) : UInt8 := UInt8.ofNat (if n < 10 then 48 + n else 55 + n)
def plainB (c : UInt8) : Bool := (decide (97 ≤ c.toNat) && decide (c.toNat ≤ 122)) || (decide (65 ≤ c.toNat) && decide (c.toNat ≤ 90)) || (decide (48 ≤ c.toNat) && decide (c.toNat ≤ 57)) || c == 45 || c == 46 || c == 95 || c == 126
def escB (c : UInt8) : List UInt8 := if plainB c then [c] else [37, hexAt (c.toNat / 16), hexAt (c.toNat % 16)]
def escAll (l : List UInt8) : List UInt8 := l.flatMap escB

/-- A fresh block of three numbers, turned into a text. -/
theorem conv3 (W : World) (a b d : Int) : (convert 41 9 (.slice (some ⟨W.heap.size, 0, none⟩) 3 3)).run Try.prog (W.alloc (.cells #[.int .u8 a, .int .u8 b, .int .u8 d] 5)).drew =
    .ok (.string (strOfNums [a, b, d])) (W.alloc (.cells #[.int .u8 a, .int .u8 b, .int .u8 d] 5)).drew := by
  refine run_convert_bytes_arg _ _ _ Try.underlying41 Try.underlying5 W.heap.size 0 3 3 [a, b, d] rfl ?_ _ Try.underlying9
  intro i hi
  have h := heap_alloc_new W (.cells #[.int .u8 a, .int .u8 b, .int .u8 d] 5)
  have h' : (W.alloc (.cells #[.int .u8 a, .int .u8 b, .int .u8 d] 5)).drew.heap[W.heap.size]? = _ := h
  match i, hi with
  | 0, _ => rw [Lib.cell_of_heap h']; rfl
  | 1, _ => rw [Lib.cell_of_heap h']; rfl
  | 2, _ => rw [Lib.cell_of_heap h']; rfl
theorem conv1 (W : World) (a : Int) : (convert 41 9 (.slice (some ⟨W.heap.size, 0, none⟩) 1 1)).run Try.prog (W.alloc (.cells #[.int .u8 a] 5)) =
    .ok (.string (strOfNums [a])) (W.alloc (.cells #[.int .u8 a] 5)) := by
  refine run_convert_bytes_arg _ _ _ Try.underlying41 Try.underlying5 W.heap.size 0 1 1 [a] rfl ?_ _ Try.underlying9
  intro i hi
  have h := heap_alloc_new W (.cells #[.int .u8 a] 5)
  match i, hi with
  | 0, _ => rw [Lib.cell_of_heap h]; rfl

theorem letter_byte (c : UInt8) : atriumref15_letter.f (c.toNat : Int) = some ((decide (97 ≤ c.toNat) && decide (c.toNat ≤ 122)) || (decide (65 ≤ c.toNat) && decide (c.toNat ≤ 90))) :=
  of_decide_eq_true (byte_all (fun c => decide (atriumref15_letter.f (c.toNat : Int) = some ((decide (97 ≤ c.toNat) && decide (c.toNat ≤ 122)) || (decide (65 ≤ c.toNat) && decide (c.toNat ≤ 90))))) (by decide +kernel) c)
theorem digit_byte (c : UInt8) : atriumref15_digit.f (c.toNat : Int) = some (decide (48 ≤ c.toNat) && decide (c.toNat ≤ 57)) :=
  of_decide_eq_true (byte_all (fun c => decide (atriumref15_digit.f (c.toNat : Int) = some (decide (48 ≤ c.toNat) && decide (c.toNat ≤ 57)))) (by decide +kernel) c)
theorem among_byte (c : UInt8) : atriumref15_among.f 10 ⟨#[45, 46, 95, 126]⟩ (c.toNat : Int) = some (c == 45 || c == 46 || c == 95 || c == 126) :=
  of_decide_eq_true (byte_all (fun c => decide (atriumref15_among.f 10 ⟨#[45, 46, 95, 126]⟩ (c.toNat : Int) = some (c == 45 || c == 46 || c == 95 || c == 126))) (by decide +kernel) c)
def hexTab : ByteArray := ⟨#[48, 49, 50, 51, 52, 53, 54, 55, 56, 57, 65, 66, 67, 68, 69, 70]⟩
theorem hexAt_hi (c : UInt8) : UInt8.ofNat (bt hexTab ((c.toNat : Int) / 16)).toNat = hexAt (c.toNat / 16) :=
  of_decide_eq_true (byte_all (fun c => decide (UInt8.ofNat (bt hexTab ((c.toNat : Int) / 16)).toNat = hexAt (c.toNat / 16))) (by decide +kernel) c)
theorem hexAt_lo (c : UInt8) : UInt8.ofNat (bt hexTab ((c.toNat : Int) % 16)).toNat = hexAt (c.toNat % 16) :=
  of_decide_eq_true (byte_all (fun c => decide (UInt8.ofNat (bt hexTab ((c.toNat : Int) % 16)).toNat = hexAt (c.toNat % 16))) (by decide +kernel) c)

set_option maxHeartbeats 400000 in
theorem refEscape_any (s : ByteArray) (w : World) (hs : s.size ≤ 140737488351232) :
    Calls Try.prog 15 #[.string s] w fun e w' => e = .returned (.string ⟨(escAll s.data.toList).toArray⟩) ∧ Below w.heap.size w w' := by
  go_enter Try.func15, Try.ntmps15
  go_wp2
  go_loopw [3, 4] (fun out i wr => ∃ (k : Nat) (x : ByteArray), k ≤ s.size ∧ i = .int .i64 k ∧ out = .string x ∧ Hid (x.data.toList = escAll (s.data.toList.take k)) ∧ x.size ≤ 3 * k ∧ Hid (Below w.heap.size w wr)) (fun _ i _ => s.size - (intOf i).toNat)
  case atStart => exact ⟨0, ⟨#[]⟩, by omega, rfl, rfl, rfl, Nat.le_refl _, Below.refl _ _⟩
  case round =>
    obtain ⟨k, x, hk, rfl, rfl, hx, hxs, hb⟩ := hrel
    by_cases hp : k < s.size
    · have hts := take_snoc_b s k hp
      generalize hbb : s[k]'hp = b at *
      have Hts := Lib.hid hts
      clear hts
      have hx0 : ((s[k]'hp).toNat : Int) = (b.toNat : Int) := by rw [hbb]
      clear hbb
      have L1 := Lib.hid (letter_byte b)
      have L2 := Lib.hid (digit_byte b)
      have L3 := Lib.hid (among_byte b)
      have HH := Lib.hid (hexAt_hi b)
      have HL := Lib.hid (hexAt_lo b)
      have hb255 : b.toNat ≤ 255 := by have := b.toNat_lt; omega
      by_cases hpl : plainB b = true
      · have hesc : Hid (escB b = [b]) := by show _ = _; simp [escB, hpl]
        generalize hl1 : (decide (97 ≤ b.toNat) && decide (b.toNat ≤ 122) || decide (65 ≤ b.toNat) && decide (b.toNat ≤ 90)) = c1 at *
        generalize hl2 : (decide (48 ≤ b.toNat) && decide (b.toNat ≤ 57)) = c2 at *
        generalize hl3 : (b == 45 || b == 46 || b == 95 || b == 126) = c3 at *
        have hor : (c1 || c2 || c3) = true := by rw [← hl1, ← hl2, ← hl3]; simpa [plainB, Bool.or_assoc] using hpl
        clear hl1 hl2 hl3 hpl
        have Hbb := Lib.hid (show (UInt8.ofNat ((b.toNat : Int)).toNat) = b by simp)
        generalize hcc : (b.toNat : Int) = c at *
        have Hcc := Lib.hid hcc
        have hcv : ∀ (n : Nat) (a : Int), (convert 41 9 (.slice (some ⟨wr.heap.size, 0, none⟩) 1 1)).run Try.prog ((wr.drewN n).alloc (.cells #[.int .u8 a] 5)) = .ok (.string (strOfNums [a])) ((wr.drewN n).alloc (.cells #[.int .u8 a] 5)) := fun n a => conv1 (wr.drewN n) a
        have hsz : ∀ a, (9223372036854775807 < x.size + (strOfNums [a]).size) = False := fun a => by rw [strOfNums_size]; exact eq_false (by simp only [List.length_cons, List.length_nil]; omega)
        have Hsz2 : Hid (∀ a, (x ++ strOfNums [a]).size = x.size + 1) := fun a => by rw [ByteArray.size_append, strOfNums_size]; rfl
        clear hcc
        cases c1 <;> cases c2 <;> cases c3 <;> (first | exact absurd hor (by decide) | clear hor)
        all_goals
          go_wp2_with (first | (go_at_call 34; refine (atriumref15_letter.calls _ _ _ L1.out).mono ?_; rintro e w' ⟨rfl, ⟨n1, rfl⟩⟩) | (go_at_call 29; refine (atriumref15_digit.calls _ _ _ L2.out).mono ?_; rintro e w' ⟨rfl, ⟨n1, rfl⟩⟩) | (go_at_call 35; refine (atriumref15_among.calls _ _ _ _ _ L3.out).mono ?_; rintro e w' ⟨rfl, ⟨n1, rfl⟩⟩))
          go_roundw
          case rel =>
            refine ⟨k + 1, _, by omega, by go_num, rfl, ?_, ?_, ?_⟩
            · show _ = _
              rw [Hts.out, ba_append, strOfNums_data, hx.out, escAll, escAll, List.flatMap_append]
              congr 1
              simp only [List.flatMap_cons, List.flatMap_nil, List.append_nil, hesc.out, List.map_cons, List.map_nil, Hbb.out]
            · rw [Hsz2.out]; omega
            · show Below _ _ _
              exact (pw_below_drewN hb.out _).alloc hb.out.size _
          case measure => simp [intOf]; omega
      · have hpl' : plainB b = false := by simpa using hpl
        have hesc : Hid (escB b = [37, hexAt (b.toNat / 16), hexAt (b.toNat % 16)]) := by show _ = _; simp [escB, hpl']
        simp only [plainB, Bool.or_eq_false_iff] at hpl'
        have H1 : Hid (atriumref15_letter.f (b.toNat : Int) = some false) := by show _ = _; rw [L1.out]; simp only [hpl'.1, Bool.or_false]
        have H2 : Hid (atriumref15_digit.f (b.toNat : Int) = some false) := by show _ = _; rw [L2.out]; simp only [hpl']
        have H3 : Hid (atriumref15_among.f 10 ⟨#[45, 46, 95, 126]⟩ (b.toNat : Int) = some false) := by show _ = _; rw [L3.out]; simp only [hpl', Bool.or_false]
        clear hpl hpl'
        generalize hcc : (b.toNat : Int) = c at *
        have hr1 : 0 ≤ c := by omega
        have hr2 : c ≤ 255 := by omega
        have Hcc := Lib.hid hcc
        have e1 : (c.tdiv 16) = c / 16 := by rw [Int.tdiv_eq_ediv_of_nonneg hr1]
        have e2 : (c.tmod 16) = c % 16 := by rw [Int.tmod_eq_emod_of_nonneg hr1]
        have e3 : IntKind.u8.wrap (c / 16) = c / 16 := by unfold IntKind.wrap; simp [IntKind.bits, IntKind.signed]; omega
        have e4 : 0 ≤ c / 16 := by omega
        have e5 : c / 16 < 16 := by omega
        have e6 : 0 ≤ c % 16 := by omega
        have e7 : c % 16 < 16 := by omega
        clear hcc
        go_wp2_with (first | (go_at_call 34; refine (atriumref15_letter.calls _ _ _ H1.out).mono ?_; rintro e w' ⟨rfl, ⟨n1, rfl⟩⟩) | (go_at_call 29; refine (atriumref15_digit.calls _ _ _ H2.out).mono ?_; rintro e w' ⟨rfl, ⟨n1, rfl⟩⟩) | (go_at_call 35; refine (atriumref15_among.calls _ _ _ _ _ H3.out).mono ?_; rintro e w' ⟨rfl, ⟨n1, rfl⟩⟩))
        generalize hw2 : wr.drewN _ = w2
        have hcv := fun a b d => conv3 w2 a b d
        have hsz : ∀ a b d, (9223372036854775807 < x.size + (strOfNums [a, b, d]).size) = False := fun a b d => by rw [strOfNums_size]; exact eq_false (by simp only [List.length_cons, List.length_nil]; omega)
        have hsz2 : ∀ a b d, (x ++ strOfNums [a, b, d]).size = x.size + 3 := fun a b d => by rw [ByteArray.size_append, strOfNums_size]; rfl
        have Hsz2 := Lib.hid hsz2
        have Hw2 := Lib.hid hw2
        clear hw2 hsz2
        go_region
        go_wp2
        go_roundw
        case rel =>
          refine ⟨k + 1, _, by omega, by go_num, rfl, ?_, ?_, ?_⟩
          · show _ = _
            rw [Hts.out]
            have b1 := bt_at hexTab (c / 16) (by show _ < 16; omega)
            have b2 := bt_at hexTab (c % 16) (by show _ < 16; omega)
            unfold hexTab at b1 b2
            rw [b1, b2]
            have h3 := HH.out
            have h4 := HL.out
            unfold hexTab at h3 h4
            rw [ba_append, strOfNums_data, hx.out, escAll, escAll, List.flatMap_append]
            congr 1
            simp only [List.flatMap_cons, List.flatMap_nil, List.append_nil, hesc.out, List.map_cons, List.map_nil, h3, h4]
            rfl
          · rw [Hsz2.out]; omega
          · have h5 : Below w.heap.size w w2 := by rw [← Hw2.out]; exact pw_below_drewN hb.out _
            show Below _ _ _
            exact (h5.alloc h5.size _).drew
        case measure => simp [intOf]; omega
    · have Hfull := Lib.hid (List.take_of_length_le (l := s.data.toList) (i := k) (by rw [Array.length_toList]; show s.size ≤ k; omega))
      go_wp2
      go_ret
      refine ⟨?_, hb.out⟩
      have h1 := hx.out
      rw [Hfull.out] at h1
      rw [← h1]; rfl
end Go.Proofs.Ytkekkabelnmlnaa
