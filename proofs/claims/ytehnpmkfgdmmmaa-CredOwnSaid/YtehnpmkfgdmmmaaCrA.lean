/- Walks of cred: nameRight; strings.Cut at one byte. -/
import Derived.Test.YtehnpmkfgdmmmaaMcA
import Derived.Test.YtehnpmkfgdmmmaaShelf
import Derived.BigQuiet
import Derived.RegionTactic
import Derived.Deep.QuietTactic
import Derived.IntWalk
namespace Go.Proofs.Ytehnpmkfgdmmmaa
open Go Go.RowKit Go.Proofs.YtehnpmkfgdmmmaaW.PrintWords
set_option linter.unusedVariables false
set_option linter.unusedSimpArgs false

def okC (c : UInt8) : Bool := (97 ≤ c.toNat && c.toNat ≤ 122) || (48 ≤ c.toNat && c.toNat ≤ 57) || c.toNat == 45
def nameOk (s : ByteArray) : Bool := s.data.toList.all okC && (1 ≤ s.size && s.size ≤ 32)
theorem all_take_succ (s : ByteArray) (i : Nat) (h : i < s.size) : (s.data.toList.take (i + 1)).all okC = ((s.data.toList.take i).all okC && okC s[i]) := by
  rw [List.take_succ_eq_append_getElem (by rw [Array.length_toList]; exact h), List.all_append]
  simp only [List.all_cons, List.all_nil, Bool.and_true]
  rfl
theorem all_bad (s : ByteArray) (i : Nat) (h : i < s.size) (hb : okC s[i] = false) : nameOk s = false := by
  have e : s.data.toList.all okC = false := by
    rw [List.all_eq_false]
    exact ⟨s[i], by have : s[i] ∈ s.data.toList := by
                       rw [Array.mem_toList_iff]; exact Array.getElem_mem _
                    exact this, by rw [hb]; decide⟩
  unfold nameOk
  rw [e]; rfl
set_option maxHeartbeats 2000000 in
set_option maxRecDepth 100000 in
theorem nameRight_any (s : ByteArray) (w : World) (hs : s.size ≤ 9223372036854775807) :
    Calls Try.prog 44 #[.string s] w fun e w' => e = .returned (.bool (nameOk s)) ∧ Below w.heap.size w w' := by
  have kb := print_bytes (P := Try.prog) 9 37 5 Try.underlying9 Try.underlying37 Try.underlying5 s w
  have Hrow := Aside0.mk (rowB_new w s)
  have Hbel := Aside0.mk (bytes_below (Below.refl w.heap.size w) (Nat.le_refl _) 5 s)
  obtain ⟨g, hg⟩ : ∃ g, w.heap.size = g := ⟨_, rfl⟩
  have Hg := Aside0.mk hg
  rw [hg] at kb Hrow
  clear hg
  generalize Lib.bytesWorld w 5 s = W3 at kb Hrow Hbel
  have hbl : s.data.toList.length = s.size := Array.length_toList
  have Hbl := Aside0.mk hbl
  clear hbl
  go_enter Try.func44, Try.ntmps44
  go_wp2
  go_loop [8] (fun iv => ∃ i : Nat, i ≤ s.size ∧ iv = .int .i64 i ∧ Aside0 ((s.data.toList.take i).all okC = true)) (fun iv => s.size - (intOf iv).toNat)
  case atStart => exact ⟨0, Nat.zero_le _, rfl, ⟨rfl⟩⟩
  case round =>
    obtain ⟨i, hi, rfl, Ha⟩ := hrel
    by_cases hlt : i < s.size
    · have hc1 := (Hrow.out i (by rw [Hbl.out]; exact hlt)).1
      have hgd : s.data.toList.getD i 0 = s[i] := by
        rw [List.getD_eq_getElem?_getD, Array.getElem?_toList, Array.getElem?_eq_getElem (show i < s.data.size from hlt)]; rfl
      rw [hgd] at hc1
      have hst := all_take_succ s i hlt
      have hbd := all_bad s i hlt
      have hok : okC s[i] = ((97 ≤ s[i].toNat && s[i].toNat ≤ 122) || (48 ≤ s[i].toNat && s[i].toNat ≤ 57) || s[i].toNat == 45) := rfl
      obtain ⟨n, hn⟩ : ∃ n, s[i].toNat = n := ⟨_, rfl⟩
      have hn2 := s[i].toNat_lt
      rw [hn] at hc1 hok hn2
      generalize okC s[i] = b at *
      have Hst := Aside0.mk hst
      have Hbd := Aside0.mk hbd
      have Hok := Aside0.mk hok
      have hli : (i : Int) < (s.size : Int) := by omega
      clear hst hbd hok hgd hn
      rcases (show (97 ≤ n ∧ n ≤ 122) ∨ (48 ≤ n ∧ n ≤ 57) ∨ n = 45 ∨ n < 45 ∨ (45 < n ∧ n < 48) ∨ (57 < n ∧ n < 97) ∨ 122 < n by omega) with ⟨h, h'⟩ | ⟨h, h'⟩ | h | h | ⟨h, h'⟩ | ⟨h, h'⟩ | h
      case inl | inr.inl | inr.inr.inl =>
        have hb : b = true := by
          rw [Hok.out]
          simp only [Bool.or_eq_true, Bool.and_eq_true, decide_eq_true_eq, beq_iff_eq]
          omega
        have HA2 := Aside0.mk (show (s.data.toList.take (i + 1)).all okC = true by rw [Hst.out, Ha.out, hb]; rfl)
        clear hb
        try subst h
        go_wp2
        go_round
        case rel => exact ⟨i + 1, by omega, by go_num, HA2⟩
        case measure => simp [intOf]; omega
      all_goals
        have hb : b = false := by
          rw [Hok.out, Bool.eq_false_iff]
          simp only [ne_eq, Bool.or_eq_true, Bool.and_eq_true, decide_eq_true_eq, beq_iff_eq]
          omega
        have HB := Aside0.mk (Hbd.out hb)
        (try have d57 : decide ((n : Int) ≤ 57) = false := decide_eq_false (by omega))
        (try have d122 : decide ((n : Int) ≤ 122) = false := decide_eq_false (by omega))
        have h45 : ((n : Int) == 45) = false := by rw [beq_eq_false_iff_ne]; omega
        clear hb
        go_wp2
        go_ret
        exact ⟨by rw [HB.out]; rfl, Hbel.out⟩
    · obtain rfl : i = s.size := by omega
      have hA := Ha.out
      rw [List.take_of_length_le (by rw [Hbl.out]; exact Nat.le_refl _)] at hA
      have hres : nameOk s = (decide (1 ≤ s.size) && decide (s.size ≤ 32)) := by unfold nameOk; rw [hA]; rfl
      have Hres := Aside0.mk hres
      clear hA hres
      rcases (show s.size < 1 ∨ (1 ≤ s.size ∧ s.size ≤ 32) ∨ 32 < s.size by omega) with h | ⟨h, h'⟩ | h
      all_goals
        go_wp2
        go_ret
        refine ⟨?_, Hbel.out⟩
        rw [Hres.out]
        first | (simp; omega) | (simp; rw [Bool.eq_iff_iff]; simp; omega) | simp
def cred_nameRight.f (a0 : ByteArray) : Option Bool := if a0.size ≤ 9223372036854775807 then some (nameOk a0) else none
theorem cred_nameRight.calls (a0 : ByteArray) (r : Bool) (w : World) (h : cred_nameRight.f a0 = some r) :
    Calls Try.prog 44 #[.string a0] w fun e w' => e = .returned (.bool r) ∧ Below w.heap.size w w' := by
  unfold cred_nameRight.f at h
  split at h
  · rename_i hs
    injection h with h
    subst h
    exact nameRight_any a0 w hs
  · cases h

/-! ### strings.Cut at one byte -/
/-- What lies before a byte's first place, what behind it. -/
def cutB (s : ByteArray) (c : UInt8) : ByteArray × ByteArray × Bool :=
  if Lib.indexByte s.data.toList c < 0 then (s, ⟨#[]⟩, false)
  else (s.extract 0 (Lib.indexByte s.data.toList c).toNat, s.extract ((Lib.indexByte s.data.toList c).toNat + 1) s.size, true)
theorem ixB_lt : ∀ (l : List UInt8) (c : UInt8), Lib.indexByte l c < (l.length : Int)
  | [], c => by show (-1 : Int) < 0; omega
  | b :: l, c => by
    have := ixB_lt l c
    unfold Lib.indexByte
    rw [List.length_cons]
    split
    · omega
    · split <;> omega
set_option maxHeartbeats 1000000 in
theorem cut1_any (s : ByteArray) (c : UInt8) (w : World) (hs : s.size ≤ 9223372036854775807) : Calls Try.prog 49 #[.string s, .string ⟨#[c]⟩] w fun e w' => e = .returned (.tuple #[.string (cutB s c).1, .string (cutB s c).2.1, .bool (cutB s c).2.2]) ∧ Drawn0 w w' := by
  have hlt := ixB_lt s.data.toList c
  rw [Array.length_toList] at hlt
  have hz : s.data.size = s.size := rfl
  have hix := Try.stringslite_Index_one s c
  unfold cutB
  generalize Lib.indexByte s.data.toList c = x at *
  have Hix := Aside0.mk hix
  clear hix
  by_cases hn : x < 0
  · rw [if_pos hn]
    go_enter Try.func49, Try.ntmps49
    go_wp2_with (go_at_call 61; refine (Hix.out _).mono ?_; rintro e1 w2 ⟨rfl, rfl⟩)
    go_ret3
    exact ⟨rfl, Drawn0.refl _⟩
  · rw [if_neg hn]
    obtain ⟨k, rfl⟩ : ∃ k : Nat, x = (k : Int) := ⟨x.toNat, by omega⟩
    rw [Int.toNat_natCast]
    have h1 : (k : Int) ≤ (s.size : Int) := by omega
    have h2 : (k : Int) + 1 ≤ (s.size : Int) := by omega
    have h3 : (0 : Int) ≤ (k : Int) := by omega
    have h4 : IntKind.i64.wrap ((k : Int) + 1) = (k : Int) + 1 := IntWalk.i64_in _ (by omega)
    have h5 : (0 : Int) ≤ (k : Int) + 1 := by omega
    have h6 : ((k : Int) + 1).toNat = k + 1 := by omega
    clear hlt hz
    go_enter Try.func49, Try.ntmps49
    go_wp2_with (go_at_call 61; refine (Hix.out _).mono ?_; rintro e1 w2 ⟨rfl, rfl⟩)
    go_quiet (fail)
    go_wp2
    go_ret3
    refine ⟨?_, ?_⟩
    · rfl
    · exact ⟨⟨_, rfl⟩⟩
end Go.Proofs.Ytehnpmkfgdmmmaa
