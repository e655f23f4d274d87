/- Walks of http's small functions; functions of the library and of text as the print has its functions; what the library's own variable holds. -/
import Derived.Test.YtckbcnmcnhahhaaDoorHtM
import Derived.Test.YtckbcnmcnhahhaaDoorWWords
import Derived.Lib.SplitLaws
import Derived.Shelf.Strings.SlTrimAscii
import Derived.Shelf.Strings.Split
import Derived.Deep.LoopGhost
import Derived.BigQuiet
import Derived.RegionTactic
import Derived.Deep.QuietTactic
import Derived.IntWalk
namespace Go.Proofs.YtckbcnmcnhahhaaDoor
open Go Go.RowKit Go.Shelf Go.Proofs.YtckbcnmcnhahhaaDoorW.PrintWords
set_option linter.unusedVariables false
set_option linter.unusedSimpArgs false

/-- The library's own variable (internal/bytealg.MaxLen) holds a number. -/
def MX (w : World) : Prop := ∃ m : Int, w.cell? ⟨0, 0, none⟩ = some (.int .i64 m)
theorem mxk {w w' : World} (h : MX w) (hb : Below w.heap.size w w') : MX w' := by
  obtain ⟨m, hm⟩ := h
  exact ⟨m, (hb.cell (p := ⟨0, 0, none⟩) (World.block_lt_of_cell? _ _ hm)).trans hm⟩
theorem mx_shaped {w : World} (h : w.ShapedOpen Tryd.prog) : MX w := Tryd.laysM146.s1_3 w h

/-! ### All bytes of a kind -/
theorem allb_take (p : UInt8 → Bool) (s : ByteArray) (i : Nat) (h : i < s.size) : (s.data.toList.take (i + 1)).all p = ((s.data.toList.take i).all p && p s[i]) := by
  rw [List.take_succ_eq_append_getElem (by rw [Array.length_toList]; exact h), List.all_append]
  simp only [List.all_cons, List.all_nil, Bool.and_true]
  rfl
theorem allb_bad (p : UInt8 → Bool) (s : ByteArray) (i : Nat) (h : i < s.size) (hb : p s[i] = false) : s.data.toList.all p = false := by
  rw [List.all_eq_false]
  exact ⟨s[i], by have : s[i] ∈ s.data.toList := by
                     rw [Array.mem_toList_iff]; exact Array.getElem_mem _
                  exact this, by rw [hb]; decide⟩
def valC (c : UInt8) : Bool := c.toNat == 9 || (decide (32 ≤ c.toNat) && !(c.toNat == 127))
def valOk (s : ByteArray) : Bool := s.data.toList.all valC
def upC (c : UInt8) : Bool := decide (65 ≤ c.toNat) && decide (c.toNat ≤ 90)
def visC (c : UInt8) : Bool := decide (33 ≤ c.toNat) && decide (c.toNat ≤ 126)

set_option maxHeartbeats 2000000 in
set_option maxRecDepth 100000 in
theorem value_any (s : ByteArray) (w : World) (hs : s.size ≤ 9223372036854775807) :
    Calls Tryd.prog 34 #[.string s] w fun e w' => e = .returned (.bool (valOk s)) ∧ Below w.heap.size w w' := by
  have kb := print_bytes (P := Tryd.prog) 9 37 5 Tryd.underlying9 Tryd.underlying37 Tryd.underlying5 s w
  have Hrow := Aside0.mk (rowB_new w s)
  have Hbel := Aside0.mk (bytes_below (Below.refl w.heap.size w) (Nat.le_refl _) 5 s)
  obtain ⟨g, hg⟩ : ∃ g, w.heap.size = g := ⟨_, rfl⟩
  have Hg := Aside0.mk hg
  rw [hg] at kb Hrow
  clear hg
  generalize Lib.bytesWorld w 5 s = W3 at kb Hrow Hbel
  have Hbl := Aside0.mk (show s.data.toList.length = s.size from Array.length_toList)
  go_enter Tryd.func34, Tryd.ntmps34
  go_wp2
  go_loop [8] (fun iv => ∃ i : Nat, i ≤ s.size ∧ iv = .int .i64 i ∧ Aside0 ((s.data.toList.take i).all valC = true)) (fun iv => s.size - (intOf iv).toNat)
  case atStart => exact ⟨0, Nat.zero_le _, rfl, ⟨rfl⟩⟩
  case round =>
    obtain ⟨i, hi, rfl, Ha⟩ := hrel
    by_cases hlt : i < s.size
    · have hc1 := (Hrow.out i (by rw [Hbl.out]; exact hlt)).1
      have hgd : s.data.toList.getD i 0 = s[i] := by
        rw [List.getD_eq_getElem?_getD, Array.getElem?_toList, Array.getElem?_eq_getElem (show i < s.data.size from hlt)]; rfl
      rw [hgd] at hc1
      have hst := allb_take valC s i hlt
      have hbd : valC s[i] = false → valOk s = false := allb_bad valC s i hlt
      have hok : valC s[i] = (s[i].toNat == 9 || (decide (32 ≤ s[i].toNat) && !(s[i].toNat == 127))) := rfl
      obtain ⟨n, hn⟩ : ∃ n, s[i].toNat = n := ⟨_, rfl⟩
      have hn2 := s[i].toNat_lt
      rw [hn] at hc1 hok hn2
      generalize valC s[i] = b at *
      have Hst := Aside0.mk hst
      have Hbd := Aside0.mk hbd
      have Hok := Aside0.mk hok
      have hli : (i : Int) < (s.size : Int) := by omega
      clear hst hbd hok hgd hn
      rcases (show n = 9 ∨ n = 127 ∨ (n < 32 ∧ n ≠ 9) ∨ (32 ≤ n ∧ n ≠ 127) by omega) with h | h | ⟨h, h'⟩ | ⟨h, h'⟩
      case inl | inr.inr.inr =>
        have hb : b = true := by
          rw [Hok.out]
          simp only [Bool.or_eq_true, Bool.and_eq_true, decide_eq_true_eq, beq_iff_eq, Bool.not_eq_true', beq_eq_false_iff_ne, ne_eq]
          omega
        have HA2 := Aside0.mk (show (s.data.toList.take (i + 1)).all valC = true by rw [Hst.out, Ha.out, hb]; rfl)
        clear hb
        (try subst h)
        (try have d9 : ((n : Int) == 9) = false := by rw [beq_eq_false_iff_ne]; omega)
        (try have d9b : ((n : Int) != 9) = true := by rw [bne_iff_ne]; omega)
        (try have d127 : ((n : Int) == 127) = false := by rw [beq_eq_false_iff_ne]; omega)
        (try have d32 : decide ((n : Int) < 32) = false := decide_eq_false (by omega))
        (try clear h')
        go_wp2
        go_round
        case rel => exact ⟨i + 1, by omega, by go_num, HA2⟩
        case measure => simp [intOf]; omega
      all_goals
        have hb : b = false := by
          rw [Hok.out, Bool.eq_false_iff]
          simp only [ne_eq, Bool.or_eq_true, Bool.and_eq_true, decide_eq_true_eq, beq_iff_eq, Bool.not_eq_true', beq_eq_false_iff_ne]
          omega
        have HB := Aside0.mk (Hbd.out hb)
        clear hb
        (try subst h)
        (try have d9 : ((n : Int) == 9) = false := by rw [beq_eq_false_iff_ne]; omega)
        (try have d9b : ((n : Int) != 9) = true := by rw [bne_iff_ne]; omega)
        (try have d32 : decide ((n : Int) < 32) = true := decide_eq_true (by omega))
        (try clear h')
        go_wp2
        go_ret
        exact ⟨by rw [HB.out]; rfl, Hbel.out⟩
    · obtain rfl : i = s.size := by omega
      have hA := Ha.out
      rw [List.take_of_length_le (by rw [Hbl.out]; exact Nat.le_refl _)] at hA
      have HA := Aside0.mk (show valOk s = true from hA)
      clear hA
      go_wp2
      go_ret
      exact ⟨by rw [HA.out]; rfl, Hbel.out⟩

def lineOk (m t : ByteArray) : Bool := decide (1 ≤ m.size) && decide (m.size ≤ 16) && decide (t.size ≤ 1024) && Lib.hasPrefix t.data.toList [47] && m.data.toList.all upC && t.data.toList.all visC
set_option maxHeartbeats 4000000 in
set_option maxRecDepth 100000 in
theorem line_any (m t : ByteArray) (w : World) (hm : m.size ≤ 9223372036854775807) (ht : t.size ≤ 9223372036854775807) :
    Calls Tryd.prog 30 #[.string m, .string t] w fun e w' => e = .returned (.bool (lineOk m t)) ∧ Below w.heap.size w w' := by
  rcases (show m.size < 1 ∨ 16 < m.size ∨ (1 ≤ m.size ∧ m.size ≤ 16) by omega) with h | h | ⟨h, h'⟩
  · have HZ := Aside0.mk (show lineOk m t = false by unfold lineOk; rw [decide_eq_false (by omega)]; rfl)
    go_enter Tryd.func30, Tryd.ntmps30
    go_wp2
    go_ret
    exact ⟨by rw [HZ.out]; rfl, Below.refl _ _⟩
  · have HZ := Aside0.mk (show lineOk m t = false by unfold lineOk; rw [decide_eq_false (show ¬ m.size ≤ 16 by omega), Bool.and_false]; rfl)
    go_enter Tryd.func30, Tryd.ntmps30
    go_wp2
    go_ret
    exact ⟨by rw [HZ.out]; rfl, Below.refl _ _⟩
  · rcases Nat.lt_or_ge 1024 t.size with g | g
    · have HZ := Aside0.mk (show lineOk m t = false by unfold lineOk; rw [decide_eq_false (show ¬ t.size ≤ 1024 by omega), Bool.and_false]; rfl)
      go_enter Tryd.func30, Tryd.ntmps30
      go_wp2
      go_ret
      exact ⟨by rw [HZ.out]; rfl, Below.refl _ _⟩
    · have hpre := Tryd.strings_HasPrefix t ⟨#[47]⟩
      cases hp : Lib.hasPrefix t.data.toList [47] with
      | false =>
        rw [show (⟨#[47]⟩ : ByteArray).data.toList = [47] from rfl, hp] at hpre
        have HP := Aside0.mk hpre
        have HZ := Aside0.mk (show lineOk m t = false by unfold lineOk; rw [hp, Bool.and_false]; rfl)
        clear hpre hp
        go_enter Tryd.func30, Tryd.ntmps30
        go_wp2_with (go_at_call 52; refine (HP.out _).mono ?_; rintro e1 w1 ⟨rfl, rfl⟩)
        go_ret
        exact ⟨by rw [HZ.out]; rfl, Below.refl _ _⟩
      | true =>
        rw [show (⟨#[47]⟩ : ByteArray).data.toList = [47] from rfl, hp] at hpre
        have HP := Aside0.mk hpre
        have HZ := Aside0.mk (show lineOk m t = (m.data.toList.all upC && t.data.toList.all visC) by unfold lineOk; rw [hp, decide_eq_true h, decide_eq_true h', decide_eq_true g]; rfl)
        clear hpre hp
        have kb := print_bytes (P := Tryd.prog) 9 37 5 Tryd.underlying9 Tryd.underlying37 Tryd.underlying5 m w
        have Hrow := Aside0.mk (rowB_new w m)
        have Hbel := Aside0.mk (bytes_below (Below.refl w.heap.size w) (Nat.le_refl _) 5 m)
        obtain ⟨gg, hg⟩ : ∃ gg, w.heap.size = gg := ⟨_, rfl⟩
        have Hg := Aside0.mk hg
        rw [hg] at kb Hrow
        clear hg
        generalize Lib.bytesWorld w 5 m = W3 at kb Hrow Hbel
        have Hbl := Aside0.mk (show m.data.toList.length = m.size from Array.length_toList)
        have kb2 := print_bytes (P := Tryd.prog) 9 37 5 Tryd.underlying9 Tryd.underlying37 Tryd.underlying5 t W3
        have Hrow2 := Aside0.mk (rowB_new W3 t)
        have Hbel2 := Aside0.mk (bytes_below Hbel.out Hbel.out.size 5 t)
        obtain ⟨g2, hg⟩ : ∃ g2, W3.heap.size = g2 := ⟨_, rfl⟩
        rw [hg] at kb2 Hrow2
        clear hg
        generalize Lib.bytesWorld W3 5 t = W4 at kb2 Hrow2 Hbel2
        have Hbl2 := Aside0.mk (show t.data.toList.length = t.size from Array.length_toList)
        go_enter Tryd.func30, Tryd.ntmps30
        go_wp2_with (go_at_call 52; refine (HP.out _).mono ?_; rintro e1 w1 ⟨rfl, rfl⟩)
        go_loop [30] (fun iv => ∃ i : Nat, i ≤ m.size ∧ iv = .int .i64 i ∧ Aside0 ((m.data.toList.take i).all upC = true)) (fun iv => m.size - (intOf iv).toNat)
        case atStart => exact ⟨0, Nat.zero_le _, rfl, ⟨rfl⟩⟩
        case round =>
          obtain ⟨i, hi, rfl, Ha⟩ := hrel
          by_cases hlt : i < m.size
          · have hc1 := (Hrow.out i (by rw [Hbl.out]; exact hlt)).1
            have hgd : m.data.toList.getD i 0 = m[i] := by
              rw [List.getD_eq_getElem?_getD, Array.getElem?_toList, Array.getElem?_eq_getElem (show i < m.data.size from hlt)]; rfl
            rw [hgd] at hc1
            have hst := allb_take upC m i hlt
            have hbd := allb_bad upC m i hlt
            have hok : upC m[i] = (decide (65 ≤ m[i].toNat) && decide (m[i].toNat ≤ 90)) := rfl
            obtain ⟨n, hn⟩ : ∃ n, m[i].toNat = n := ⟨_, rfl⟩
            have hn2 := m[i].toNat_lt
            rw [hn] at hc1 hok hn2
            generalize upC m[i] = b at *
            have Hst := Aside0.mk hst
            have Hbd := Aside0.mk hbd
            have Hok := Aside0.mk hok
            have hli : (i : Int) < (m.size : Int) := by omega
            clear hst hbd hok hgd hn
            rcases (show (65 ≤ n ∧ n ≤ 90) ∨ n < 65 ∨ 90 < n by omega) with ⟨k, k'⟩ | k | k
            case inl =>
              have hb : b = true := by rw [Hok.out, decide_eq_true k, decide_eq_true k']; rfl
              have HA2 := Aside0.mk (show (m.data.toList.take (i + 1)).all upC = true by rw [Hst.out, Ha.out, hb]; rfl)
              clear hb
              go_wp2
              go_round
              case rel => exact ⟨i + 1, by omega, by go_num, HA2⟩
              case measure => simp [intOf]; omega
            all_goals
              have hb : b = false := by
                rw [Hok.out, Bool.eq_false_iff]
                simp only [ne_eq, Bool.and_eq_true, decide_eq_true_eq]
                omega
              have HB := Aside0.mk (Hbd.out hb)
              clear hb
              go_wp2
              go_ret
              exact ⟨by rw [HZ.out, HB.out]; rfl, Hbel.out⟩
          · obtain rfl : i = m.size := by omega
            have hA := Ha.out
            rw [List.take_of_length_le (by rw [Hbl.out]; exact Nat.le_refl _)] at hA
            have HA := Aside0.mk hA
            clear hA Ha
            go_wp2
            go_loop [44] (fun iv => ∃ i : Nat, i ≤ t.size ∧ iv = .int .i64 i ∧ Aside0 ((t.data.toList.take i).all visC = true)) (fun iv => t.size - (intOf iv).toNat)
            case atStart => exact ⟨0, Nat.zero_le _, rfl, ⟨rfl⟩⟩
            case round =>
              obtain ⟨j, hj, rfl, Ha⟩ := hrel
              by_cases hjl : j < t.size
              · have hc1 := (Hrow2.out j (by rw [Hbl2.out]; exact hjl)).1
                have hgd : t.data.toList.getD j 0 = t[j] := by
                  rw [List.getD_eq_getElem?_getD, Array.getElem?_toList, Array.getElem?_eq_getElem (show j < t.data.size from hjl)]; rfl
                rw [hgd] at hc1
                have hst := allb_take visC t j hjl
                have hbd := allb_bad visC t j hjl
                have hok : visC t[j] = (decide (33 ≤ t[j].toNat) && decide (t[j].toNat ≤ 126)) := rfl
                obtain ⟨n, hn⟩ : ∃ n, t[j].toNat = n := ⟨_, rfl⟩
                have hn2 := t[j].toNat_lt
                rw [hn] at hc1 hok hn2
                generalize visC t[j] = b at *
                have Hst := Aside0.mk hst
                have Hbd := Aside0.mk hbd
                have Hok := Aside0.mk hok
                have hli : (j : Int) < (t.size : Int) := by omega
                clear hst hbd hok hgd hn
                rcases (show (33 ≤ n ∧ n ≤ 126) ∨ n < 33 ∨ 126 < n by omega) with ⟨k, k'⟩ | k | k
                case inl =>
                  have hb : b = true := by rw [Hok.out, decide_eq_true k, decide_eq_true k']; rfl
                  have HA2 := Aside0.mk (show (t.data.toList.take (j + 1)).all visC = true by rw [Hst.out, Ha.out, hb]; rfl)
                  clear hb
                  go_wp2
                  go_round
                  case rel => exact ⟨j + 1, by omega, by go_num, HA2⟩
                  case measure => simp [intOf]; omega
                all_goals
                  have hb : b = false := by
                    rw [Hok.out, Bool.eq_false_iff]
                    simp only [ne_eq, Bool.and_eq_true, decide_eq_true_eq]
                    omega
                  have HB := Aside0.mk (Hbd.out hb)
                  clear hb
                  go_wp2
                  go_ret
                  exact ⟨by rw [HZ.out, HB.out, Bool.and_false]; rfl, Hbel2.out⟩
              · obtain rfl : j = t.size := by omega
                have hA2 := Ha.out
                rw [List.take_of_length_le (by rw [Hbl2.out]; exact Nat.le_refl _)] at hA2
                have HA2 := Aside0.mk hA2
                clear hA2
                go_wp2
                go_ret
                exact ⟨by rw [HZ.out, HA.out, HA2.out]; rfl, Hbel2.out⟩

/-! ### As the print has its functions -/
def http_valueRight.f (a0 : ByteArray) : Option Bool := if a0.size ≤ 9223372036854775807 then some (valOk a0) else none
theorem http_valueRight.calls (a0 : ByteArray) (r : Bool) (w : World) (h : http_valueRight.f a0 = some r) :
    Calls Tryd.prog 34 #[.string a0] w fun e w' => e = .returned (.bool r) ∧ Below w.heap.size w w' := by
  unfold http_valueRight.f at h
  split at h
  · rename_i hs; injection h with h; subst h; exact value_any a0 w hs
  · cases h
def http_lineRight.f (a0 a1 : ByteArray) : Option Bool := if a0.size ≤ 9223372036854775807 ∧ a1.size ≤ 9223372036854775807 then some (lineOk a0 a1) else none
theorem http_lineRight.calls (a0 a1 : ByteArray) (r : Bool) (w : World) (h : http_lineRight.f a0 a1 = some r) :
    Calls Tryd.prog 30 #[.string a0, .string a1] w fun e w' => e = .returned (.bool r) ∧ Below w.heap.size w w' := by
  unfold http_lineRight.f at h
  split at h
  · rename_i hs; injection h with h; subst h; exact line_any a0 a1 w hs.1 hs.2
  · cases h
def strings_IndexByte.f (a0 : ByteArray) (a1 : Int) : Option Int := some (Lib.indexByte a0.data.toList a1.toNat.toUInt8)
theorem strings_IndexByte.calls (a0 : ByteArray) (a1 : Int) (r : Int) (w : World) (h : strings_IndexByte.f a0 a1 = some r) :
    Calls Tryd.prog 54 #[.string a0, .int .u8 a1] w fun e w' => e = .returned (.int .i64 r) ∧ Drawn0 w w' :=
  (Tryd.strings_IndexByte a0 a1 w).mono fun e w' ⟨h1, h2⟩ => ⟨by rw [h1]; simp only [strings_IndexByte.f, Option.some.injEq] at h; rw [h], by rw [h2]; exact Drawn0.refl _⟩
def strings_Index.f (a0 a1 : ByteArray) : Option Int := if a0.size < 4294967281 then some (Lib.index a0.data.toList a1.data.toList) else none
theorem strings_Index.calls (a0 a1 : ByteArray) (r : Int) (w : World) (h : strings_Index.f a0 a1 = some r) (hm_ : MX w) :
    Calls Tryd.prog 21 #[.string a0, .string a1] w fun e w' => e = .returned (.int .i64 r) ∧ Drawn0 w w' := by
  obtain ⟨m, hm⟩ := hm_
  unfold strings_Index.f at h
  split at h
  · rename_i hs; injection h with h; subst h
    exact (Tryd.strings_Index a0 a1 m w hs hm).mono fun e w' ⟨h1, h2⟩ => ⟨h1, by rw [h2]; exact Drawn0.refl _⟩
  · cases h
def strings_Cut.f (a0 a1 : ByteArray) : Option (ByteArray × ByteArray × Bool) := if a0.size < 4294967281 then some (⟨(Lib.cut a0.data.toList a1.data.toList).1.toArray⟩, ⟨(Lib.cut a0.data.toList a1.data.toList).2.1.toArray⟩, (Lib.cut a0.data.toList a1.data.toList).2.2) else none
theorem strings_Cut.calls (a0 a1 : ByteArray) (r1 r2 : ByteArray) (r3 : Bool) (w : World) (h : strings_Cut.f a0 a1 = some (r1, r2, r3)) (hm_ : MX w) :
    Calls Tryd.prog 64 #[.string a0, .string a1] w fun e w' => e = .returned (.tuple #[.string r1, .string r2, .bool r3]) ∧ Drawn0 w w' := by
  obtain ⟨m, hm⟩ := hm_
  unfold strings_Cut.f at h
  split at h
  · rename_i hs; injection h with h
    simp only [Prod.mk.injEq] at h
    obtain ⟨rfl, rfl, rfl⟩ := h
    exact (Tryd.strings_Cut a0 a1 m w hs hm).mono fun e w' ⟨h1, h2⟩ => ⟨h1, ⟨h2⟩⟩
  · cases h
theorem trim_any (s : ByteArray) (w : World) (hs : s.size ≤ 9223372036854775807) :
    Calls Tryd.prog 35 #[.string s] w fun e w' => e = .returned (.string ⟨(Lib.trimS s.data.toList [32, 9]).toArray⟩) ∧ Below w.heap.size w w' := by
  have hcon := Any.strings_Trim_laid Tryd.lays160 (by kernel_rfl) s ⟨#[32, 9]⟩ w hs (by decide) (ascii_of_all (by decide))
  change Calls Tryd.prog 55 _ _ (fun e w' => e = .returned (.string ⟨(Lib.trimS s.data.toList [32, 9]).toArray⟩) ∧ Below w.heap.size w w') at hcon
  generalize (⟨(Lib.trimS s.data.toList [32, 9]).toArray⟩ : ByteArray) = r at hcon ⊢
  go_enter Tryd.func35, Tryd.ntmps35
  go_wp2_with (go_at_call 55; refine hcon.mono ?_; rintro e w' ⟨rfl, hB⟩)
  go_ret
  exact ⟨rfl, hB⟩
def text_Trim.f (a0 : ByteArray) : Option ByteArray := if a0.size ≤ 9223372036854775807 then some ⟨(Lib.trimS a0.data.toList [32, 9]).toArray⟩ else none
theorem text_Trim.calls (a0 : ByteArray) (r : ByteArray) (w : World) (h : text_Trim.f a0 = some r) :
    Calls Tryd.prog 35 #[.string a0] w fun e w' => e = .returned (.string r) ∧ Below w.heap.size w w' := by
  unfold text_Trim.f at h
  split at h
  · rename_i hs; injection h with h; subst h; exact trim_any a0 w hs
  · cases h
def text_Lower.f (a0 : ByteArray) : Option ByteArray := if a0.size ≤ 9223372036854775807 then some (lowS a0) else none
theorem text_Lower.calls (a0 : ByteArray) (r : ByteArray) (w : World) (h : text_Lower.f a0 = some r) :
    Calls Tryd.prog 26 #[.string a0] w fun e w' => e = .returned (.string r) ∧ Below w.heap.size w w' := by
  unfold text_Lower.f at h
  split at h
  · rename_i hs; injection h with h; subst h; exact lower_any a0 w hs
  · cases h
end Go.Proofs.YtckbcnmcnhahhaaDoor
