/- Bytes that '[]byte(s)' has made: a row known cell by cell; stores into it; the text of it. -/
import Derived.Test.YtckbcnmcnhahhaaDoorProg
import Derived.Test.YtckbcnmcnhahhaaDoorWWords
import Derived.WalkKit
import Derived.KernelRfl
import Derived.Lib.Hide
import Derived.RowKit3
import Derived.Test.YtckbcnmcnhahhaaDoorRn
import Derived.Test.YtckbcnmcnhahhaaDoorShelf
import Derived.Lib.OthersKept
import Derived.Lib.Builder
import Derived.Lib.UnsafeStr
import Derived.Laws.Externs
import Derived.Lib.FrozenHead2
import Derived.OneCell
import Derived.Maps.AppendAt
namespace Go.Proofs.YtckbcnmcnhahhaaDoor
open Go Go.RowKit Go.Proofs.YtckbcnmcnhahhaaDoorW.PrintWords
set_option linter.unusedVariables false
set_option linter.unusedSimpArgs false

/-- A row of bytes in block g, cell by cell. -/
def RowB (g : Nat) (L : List UInt8) (w : World) : Prop := ∀ i, i < L.length → w.cell? ⟨g, i, none⟩ = some (.int .u8 ((L.getD i 0).toNat : Int)) ∧ w.frozen? ⟨g, i, none⟩ = false
theorem rowB_new (w : World) (s : ByteArray) : RowB w.heap.size s.data.toList (Lib.bytesWorld w 5 s) := by
  intro i hi
  rw [Array.length_toList] at hi
  refine ⟨Lib.bytesWorld_cell w 5 s i hi, ?_⟩
  have hs : (Lib.bytesCells w 5 s).size ≥ s.size := by simp [Lib.bytesCells]
  have hz : s.data.size = s.size := rfl
  simp only [World.frozen?, Lib.bytesWorld_at_new]
  simp; omega
theorem RowB.set {g : Nat} {L : List UInt8} {w : World} (h : RowB g L w) (i : Nat) (c : UInt8) : RowB g (L.set i c) (w.setCell ⟨g, i, none⟩ (.int .u8 (c.toNat : Int))) := by
  intro j hj
  rw [List.length_set] at hj
  obtain ⟨h1, h2⟩ := h j hj
  refine ⟨?_, by rw [World.frozen?_setCell]; exact h2⟩
  by_cases he : i = j
  · subst he
    rw [World.cell?_setCell_same _ _ _ h1, List.getD_eq_getElem?_getD, List.getElem?_set_self hj, Option.getD_some]
  · rw [World.cell?_setCell_other _ _ _ _ (fun h => he (by injection h)), h1, List.getD_eq_getElem?_getD, List.getD_eq_getElem?_getD, List.getElem?_set_ne he]
theorem row_data_inj {a b : ByteArray} (h : a.data.toList = b.data.toList) : a = b := by cases a; cases b; simp at h; rw [h]
theorem row_str (L : List UInt8) : strOfNums (L.map fun c => (c.toNat : Int)) = ⟨L.toArray⟩ := by
  apply row_data_inj
  show ((L.map fun c => (c.toNat : Int)).map fun n => UInt8.ofNat n.toNat).toArray.toList = L.toArray.toList
  simp only [List.map_map, List.toList_toArray]
  conv => rhs; rw [← List.map_id L]
  apply List.map_congr_left
  intro c _
  show UInt8.ofNat ((c.toNat : Int).toNat) = c
  rw [Int.toNat_natCast, UInt8.ofNat_toNat]
/-- The text of such a row. -/
theorem RowB.text {g : Nat} {L : List UInt8} {w : World} (h : RowB g L w) (n cap : Nat) (hn : L.length = n) : (convert 37 9 (.slice (some ⟨g, 0, none⟩) n cap)).run Tryd.prog w = .ok (.string ⟨L.toArray⟩) w := by
  have hcv := run_convert_bytes_arg (P := Tryd.prog) w 37 5 Tryd.underlying37 Tryd.underlying5 g 0 n cap (L.map fun c => (c.toNat : Int)) (by rw [List.length_map, hn]) (fun i hi => by
    have h1 := (h i (by omega)).1
    rw [Nat.zero_add, h1, List.getD_eq_getElem?_getD, List.getD_eq_getElem?_getD, List.getElem?_map, List.getElem?_eq_getElem (by omega)]; rfl) 9 Tryd.underlying9
  rw [← row_str]
  exact hcv
end Go.Proofs.YtckbcnmcnhahhaaDoor
/- Walks of the text package's functions that range over a string: Decode, Count, Digits. -/
namespace Go.Proofs.YtckbcnmcnhahhaaDoor
open Go Go.RowKit
set_option linter.unusedVariables false

theorem iter0 (w : World) (s : ByteArray) : (w.iter s 0).heap[w.heap.size]? = some (.stringIter s 0) := World.iter_heap w s 0

theorem isEmpty_of (s : ByteArray) (h : s.size = 0) : s.toList.isEmpty = true := by
  have : s.data.toList.length = 0 := by rw [Array.length_toList]; exact h
  rw [ByteArray.toList_eq, List.eq_nil_of_length_eq_zero this]; rfl
theorem isEmpty_not (s : ByteArray) (h : ¬ s.size = 0) : s.toList.isEmpty = false := by
  have : s.data.toList.length ≠ 0 := by rw [Array.length_toList]; exact h
  rw [ByteArray.toList_eq]
  cases hl : s.data.toList with
  | nil => simp [hl] at this
  | cons a l => rfl
theorem pos_of {w : World} {k : Nat} {s : ByteArray} {p : Nat} (h : w.heap[k]? = some (.stringIter s p)) : w.iterPos k = p := by simp only [World.iterPos, h]

end Go.Proofs.YtckbcnmcnhahhaaDoor
/- strings.Builder at this program: copyCheck, WriteString, WriteByte over the library's relation IsBuilderF; String is the shelf's. -/
namespace Go.Proofs.YtckbcnmcnhahhaaDoor
open Go Go.RowKit
set_option linter.unusedVariables false
set_option linter.unusedSimpArgs false

theorem infoByte : (Tryd.prog.info? 5).map (fun i => (i.zero, i.size, i.bytes)) = some (some (.int .u8 0), 1, 1) := by kernel_rfl

abbrev BldF (B b : Nat) (bs : List Value) (w : World) : Prop := Lib.IsBuilderF 70 5 B b bs w
abbrev BldAt (B b : Nat) (bs : List Value) (w : World) : Prop := Lib.BuilderAtF 70 5 B b (.pointer (some ⟨b, 0, none⟩)) bs w

theorem sizeBuilder : (Tryd.prog.info? 70).map (·.size) = some 2 := by kernel_rfl
theorem liesBuilder : liesAt Tryd.prog Tryd.prog.depth 70 (2 / Tryd.prog.cellsOf 70) 0 70 1 = true := by kernel_rfl

set_option maxHeartbeats 1000000 in
set_option maxRecDepth 100000 in
theorem bld_copyCheck (B b : Nat) (bs : List Value) (w : World) (h : BldF B b bs w) :
    Calls Tryd.prog 65 #[.pointer (some ⟨b, 0, none⟩)] w fun e w' => e = .returned (.tuple #[]) ∧ BldAt B b bs w' ∧ Below B w w' ∧ Lib.OthersKept 5 (some b) w w' := by
  obtain ⟨j, hj, hjs⟩ := Option.map_eq_some_iff.1 sizeBuilder
  rcases h with h | h
  · have h' := h
    obtain ⟨hB, v, hbk, hown, hne⟩ := h
    have c0 : w.cell? ⟨b, 0, none⟩ = some (.pointer none) := by rw [Lib.cell_of_heap hbk]; rfl
    have f0 : w.frozen? ⟨b, 0, none⟩ = false := Lib.frozen_of_heap hbk 0
    have hsh : w.shape? b = some (70, 2) := by simp [World.shape?, hbk]
    have Hbk := Lib.hid hbk
    clear hown hbk
    go_enter Tryd.func65, Tryd.ntmps65
    go_wp2
    rw [Lib.run_to_unsafe w ⟨b, 0, none⟩ Tryd.underlying68 Tryd.underlying96 hj (by rw [hjs]; decide) hsh (Nat.zero_lt_succ 1)]
    simp only [Result.andThen]
    rw [Oper.upon_value]
    go_wp2
    rw [run_callFunc_extern Tryd.func79 (by kernel_rfl) (by kernel_rfl) (by kernel_rfl) (e := Extern.AbiNoEscape.same) (by kernel_rfl)]
    rw [Lib.run_noEscape]
    simp only [Result.andThen]
    rw [Oper.upon_value]
    go_wp2
    rw [Lib.run_from_unsafe w ⟨b, 0, none⟩ Tryd.underlying96 Tryd.underlying68 hj hsh liesBuilder]
    simp only [Result.andThen]
    rw [Oper.upon_value]
    go_wp2
    go_end0
    exact ⟨rfl, h'.used _, (Below.refl B w).setCell (p := ⟨b, 0, none⟩) h'.1 _, (Lib.OthersKept.refl _ _ w).setCell ⟨b, 0, none⟩ rfl _⟩
  · have h' := h
    obtain ⟨hB, v, hbk, hown, hne⟩ := h
    have c0 : w.cell? ⟨b, 0, none⟩ = some (.pointer (some ⟨b, 0, none⟩)) := by rw [Lib.cell_of_heap hbk]; rfl
    clear hown hbk
    go_enter Tryd.func65, Tryd.ntmps65
    go_wp2
    rw [Lib.run_neq_ptr_same w _ Tryd.underlying68 hj]
    go_wp2
    go_end0
    exact ⟨rfl, h', Below.refl B _, Lib.OthersKept.refl _ _ _⟩

set_option maxHeartbeats 2000000 in
set_option maxRecDepth 100000 in
theorem bld_WriteString (B b : Nat) (bs : List Value) (s : ByteArray) (w : World) (h : BldF B b bs w) (hlen : bs.length + s.size ≤ 140737488355328) (hBw : B ≤ w.heap.size) :
    Calls Tryd.prog 50 #[.pointer (some ⟨b, 0, none⟩), .string s] w fun e w' => e = .returned (.tuple #[.int .i64 s.size, .nilIface]) ∧ BldAt B b (bs ++ Lib.strCells s) w' ∧ Below B w w' ∧ Lib.OthersKept 5 (some b) w w' := by
  obtain ⟨i0, hi, hz0, hz1, hz2⟩ := info_parts infoByte
  go_enter Tryd.func50, Tryd.ntmps50
  go_wp2_with (go_at_call 65; refine (bld_copyCheck B b bs _ h).mono ?_)
  rintro e w1 ⟨rfl, h1, hb1, hk1⟩
  obtain ⟨hB, v, hbk, hown, hne⟩ := h1
  have c0 : w1.cell? ⟨b, 0, none⟩ = some (.pointer (some ⟨b, 0, none⟩)) := by rw [Lib.cell_of_heap hbk]; rfl
  have c1 : w1.cell? ⟨b, 1, none⟩ = some v := by rw [Lib.cell_of_heap hbk]; rfl
  go_wp2_with (at_builtin; refine Lib.wpList_append_own_stringF _ rfl _ _ 37 9 rfl B 5 i0 Tryd.underlying37 Tryd.underlying9 hi hz0 hz1 hz2 _ _ _ rfl hown s rfl ?c3 ?c4 ?c5 ?_)
  case c3 => unfold maxLen; omega
  case c4 => omega
  case c5 => have := hb1.size; omega
  intro v' w2 hown' hgrow _
  have hlt : b < w1.heap.size := by
    rcases Nat.lt_or_ge b w1.heap.size with h' | h'
    · exact h'
    · simp [Array.getElem?_eq_none h'] at hbk
  have hb2 : w2.heap[b]? = some (.cells #[.pointer (some ⟨b, 0, none⟩), v] 70 (0, 0)) := by
    rw [hgrow.block b hlt (fun e => hne e.symm)]
    exact hbk
  have d0 : w2.cell? ⟨b, 0, none⟩ = some (.pointer (some ⟨b, 0, none⟩)) := by rw [Lib.cell_of_heap hb2]; rfl
  have d1 : w2.cell? ⟨b, 1, none⟩ = some v := by rw [Lib.cell_of_heap hb2]; rfl
  have f1 : w2.frozen? ⟨b, 1, none⟩ = false := Lib.frozen_of_heap hb2 1
  obtain ⟨ao, n', cap, rfl⟩ : ∃ ao n' cap, v' = .slice ao n' cap := by
    rcases hown'.2 with ⟨hv, _⟩ | ⟨g, cap, cur, fz, hv, _⟩
    · exact ⟨_, _, _, hv⟩
    · exact ⟨_, _, _, hv⟩
  go_wp2
  go_ret2
  refine ⟨rfl, ?_, ?_, (hk1.grown hgrow (Lib.ownsRowF_kind hown)).setCell ⟨b, 1, none⟩ rfl _⟩
  · exact Lib.BuilderAtF.put (T := 70) (e := 5) hB hb2 (bs' := bs ++ Lib.strCells s) (by simpa [Lib.strCells_length] using hown') (by decide)
  · exact (hb1.grown hgrow (by have := hb1.size; omega) (fun k hk => (hown.lt k hk).1)).setCell (p := ⟨b, 1, none⟩) hB _
end Go.Proofs.YtckbcnmcnhahhaaDoor
/- Walks of the text package's functions that hand closures to each: Runes, Valid. -/
namespace Go.Proofs.YtckbcnmcnhahhaaDoor
open Go Go.RowKit
set_option linter.unusedVariables false

end Go.Proofs.YtckbcnmcnhahhaaDoor
/- Walks: Digits (by runes), Text (a Builder over a list of runes). -/
namespace Go.Proofs.YtckbcnmcnhahhaaDoor
open Go Go.RowKit
set_option linter.unusedVariables false

/-- The number of digits, the leftmost first. -/
def digVal (l : List UInt8) : Nat := l.foldl (fun n c => 10 * n + (c.toNat - 48)) 0
def isDig (c : UInt8) : Bool := decide (48 ≤ c.toNat) && decide (c.toNat ≤ 57)
theorem digVal_snoc (l : List UInt8) (c : UInt8) : digVal (l ++ [c]) = 10 * digVal l + (c.toNat - 48) := by simp [digVal]
theorem digVal_from (l : List UInt8) : ∀ n, l.all isDig = true → l.foldl (fun n c => 10 * n + (c.toNat - 48)) n + 1 ≤ (n + 1) * 10 ^ l.length := by
  induction l with
  | nil => intro n _; simp
  | cons c l ih =>
    intro n h
    simp only [List.all_cons, Bool.and_eq_true, isDig, decide_eq_true_eq] at h
    have h1 := ih (10 * n + (c.toNat - 48)) h.2
    simp only [List.foldl_cons, List.length_cons, Nat.pow_succ]
    refine Nat.le_trans h1 ?_
    rw [Nat.mul_comm (10 ^ l.length) 10, ← Nat.mul_assoc]
    exact Nat.mul_le_mul_right _ (by omega)
theorem digVal_lt (l : List UInt8) (h : l.all isDig = true) : digVal l < 10 ^ l.length := by
  have := digVal_from l 0 h
  unfold digVal
  omega
theorem digVal_le18 (l : List UInt8) (h : l.all isDig = true) (hl : l.length ≤ 18) : digVal l < 1000000000000000000 := by
  refine Nat.lt_of_lt_of_le (digVal_lt l h) ?_
  have : (10 : Nat) ^ l.length ≤ 10 ^ 18 := Nat.pow_le_pow_right (by omega) hl
  simpa using this
theorem digVal_le17 (l : List UInt8) (h : l.all isDig = true) (hl : l.length ≤ 17) : digVal l < 100000000000000000 := by
  refine Nat.lt_of_lt_of_le (digVal_lt l h) ?_
  have : (10 : Nat) ^ l.length ≤ 10 ^ 17 := Nat.pow_le_pow_right (by omega) hl
  simpa using this

def headNought (s : ByteArray) : Bool := decide (s.data.toList.head? = some 48)
def digitsRes (s : ByteArray) (most : Int) : Int × Int :=
  if s.size < 1 then (0, 150) else if 18 < s.size then (0, 150) else if 1 < s.size ∧ headNought s = true then (0, 150)
  else if s.data.toList.all isDig = true then (if most < (digVal s.data.toList : Int) then (0, 3) else ((digVal s.data.toList : Int), 0)) else (0, 150)

theorem take_snoc_b (s : ByteArray) (k : Nat) (h : k < s.size) : s.data.toList.take (k + 1) = s.data.toList.take k ++ [s[k]'h] := by
  rw [List.take_succ_eq_append_getElem (by simpa using h)]; rfl

theorem head_byte (s : ByteArray) (h : 0 < s.size) : s.data.toList.head? = some (s[0]'h) := by
  have h' : 0 < s.data.toList.length := by rw [Array.length_toList]; exact h
  rw [List.head?_eq_getElem?, List.getElem?_eq_getElem h']; rfl

theorem all_take_succ (s : ByteArray) (k : Nat) (h : k < s.size) : (s.data.toList.take (k + 1)).all isDig = ((s.data.toList.take k).all isDig && isDig (s[k]'h)) := by
  rw [take_snoc_b s k h, List.all_append]; simp

theorem all_false_at (s : ByteArray) (k : Nat) (h : k < s.size) (hk : isDig (s[k]'h) = false) : s.data.toList.all isDig = false := by
  rw [List.all_eq_false]
  refine ⟨s[k]'h, ?_, by simp [hk]⟩
  exact Array.getElem_mem_toList (xs := s.data) h

theorem dec_dig (s : ByteArray) (k : Nat) (h : k < s.size) (hd : isDig (s[k]'h) = false) : (Utf8.decode s k).1 < 48 ∨ 57 < (Utf8.decode s k).1 := by
  by_cases ha : (s[k]'h).toNat < 128
  · rw [decode_ascii s k h ha]
    simp only [isDig, Bool.and_eq_false_iff, decide_eq_false_iff_not] at hd
    omega
  · have := (decode_high s k h (by omega)).1
    omega

def RetPair (p : Int × Int) (e : Ending) : Prop := e = .returned (.tuple #[.int .i64 p.1, .int .i64 p.2])

set_option maxHeartbeats 2000000 in
set_option maxRecDepth 100000 in
theorem digits_any (s : ByteArray) (most : Int) (w : World) :
    Calls Tryd.prog 46 #[.string s, .int .i64 most] w fun e w' => RetPair (digitsRes s most) e ∧ Below w.heap.size w w' := by
  by_cases h1 : s.size < 1
  · have Hr := Lib.hid (show digitsRes s most = (0, 150) by simp only [digitsRes, h1, if_true])
    go_enter Tryd.func46, Tryd.ntmps46
    go_wp2
    go_ret2
    exact ⟨by rw [Hr.out]; rfl, Below.refl _ _⟩
  by_cases h2 : 18 < s.size
  · have Hr := Lib.hid (show digitsRes s most = (0, 150) by simp only [digitsRes, h1, h2, if_true, if_false])
    go_enter Tryd.func46, Tryd.ntmps46
    go_wp2
    go_ret2
    exact ⟨by rw [Hr.out]; rfl, Below.refl _ _⟩
  have h0 : 0 < s.size := by omega
  by_cases h3 : 1 < s.size ∧ headNought s = true
  · have Hr := Lib.hid (show digitsRes s most = (0, 150) by simp only [digitsRes, h1, h2, h3, if_false]; simp)
    have hx : (((s[0]'h0).toNat : Int) == 48) = true := by
      have := h3.2
      simp only [headNought, head_byte s h0, decide_eq_true_eq, Option.some.injEq] at this
      rw [this]; rfl
    have h31 := h3.1
    clear h3
    go_enter Tryd.func46, Tryd.ntmps46
    go_wp2
    go_ret2
    exact ⟨by rw [Hr.out]; rfl, Below.refl _ _⟩
  · have Hr := Lib.hid (show digitsRes s most = (if s.data.toList.all isDig = true then (if most < (digVal s.data.toList : Int) then (0, 3) else ((digVal s.data.toList : Int), 0)) else (0, 150)) by simp only [digitsRes, h1, h2, h3, if_false])
    have hx : 1 < s.size → (((s[0]'h0).toNat : Int) == 48) = false := by
      intro h
      have : ¬ headNought s = true := fun hh => h3 ⟨h, hh⟩
      simp only [headNought, head_byte s h0, decide_eq_true_eq, Option.some.injEq] at this
      rw [beq_eq_false_iff_ne]
      intro hh
      exact this (UInt8.toNat_inj.mp (by simpa using (by omega : (s[0]'h0).toNat = 48)))
    clear h3
    have hl : s.data.toList.length = s.size := Array.length_toList
    by_cases h4 : 1 < s.size
    all_goals
      try have hx' := hx h4
      clear hx
      go_enter Tryd.func46, Tryd.ntmps46
      go_wp2
      go_loopw [6] (fun n wr => ∃ k : Nat, wr.heap[w.heap.size]? = some (.stringIter s k) ∧ Below w.heap.size w wr ∧ k ≤ s.size ∧ Hid ((s.data.toList.take k).all isDig = true) ∧ n = .int .i64 (digVal (s.data.toList.take k))) (fun _ wr => s.size - wr.iterPos w.heap.size)
      case atStart => exact ⟨0, iter0 w s, (Below.refl _ w).alloc (Nat.le_refl _) _, by omega, rfl, rfl⟩
      case round =>
        obtain ⟨k, hit, hb, hk, hall, rfl⟩ := hrel
        have Hps := Lib.hid (pos_of hit)
        by_cases hp : k < s.size
        · have hit2 := Lib.iterAt_heap wr w.heap.size s k (k + (Utf8.decode s k).2) hit
          have hb2 := Lib.below_iterAt hb (k := w.heap.size) (Nat.le_refl _) s (k + (Utf8.decode s k).2)
          cases hd : isDig (s[k]'hp) with
          | true =>
            have hc : 48 ≤ (s[k]'hp).toNat ∧ (s[k]'hp).toNat ≤ 57 := by simpa [isDig] using hd
            have hdec := decode_ascii s k hp (by omega)
            rw [hdec] at hit2 hb2
            have hnx : ∀ ty, (Instr.next (.pointer (some ⟨w.heap.size, 0, none⟩)) true ty).run Tryd.prog wr = _ := fun ty => Lib.run_next_ascii_at wr w.heap.size s k ty hit hp (by omega)
            have hlt := digVal_le17 (s.data.toList.take k) hall.out (by rw [List.length_take]; omega)
            have Hall := Lib.hid (show (s.data.toList.take (k + 1)).all isDig = true by rw [all_take_succ s k hp, hall.out, hd]; rfl)
            have Hv := Lib.hid (show digVal (s.data.toList.take (k + 1)) = 10 * digVal (s.data.toList.take k) + ((s[k]'hp).toNat - 48) by rw [take_snoc_b s k hp, digVal_snoc])
            have Hps2 := Lib.hid (pos_of hit2)
            have hc1 := hc.1
            have hc2 := hc.2
            generalize hcc : (s[k]'hp).toNat = c at *
            have Hcc := Lib.hid hcc
            generalize hvv : digVal (s.data.toList.take k) = v at *
            have Hvv := Lib.hid hvv
            clear hcc hvv hc hdec hd hit
            go_wp2
            go_roundw
            case rel => exact ⟨k + 1, hit2, hb2, by omega, Hall, by rw [Hv.out]; have e : ((10 * v + (c - 48) : Nat) : Int) = 10 * (v : Int) + ((c : Int) - 48) := by omega
                                                                    rw [e]⟩
            case measure =>
              rw [Hps.out, Hps2.out]
              omega
          | false =>
            have hnx : ∀ ty, (Instr.next (.pointer (some ⟨w.heap.size, 0, none⟩)) true ty).run Tryd.prog wr = _ := fun ty => Lib.run_next_any_at wr w.heap.size s k ty hit hp
            have hbad := dec_dig s k hp hd
            have Hno := Lib.hid (all_false_at s k hp hd)
            clear hd hit
            by_cases hb1 : (Utf8.decode s k).1 < 48
            · go_wp2
              go_ret2
              exact ⟨by rw [Hr.out, Hno.out]; rfl, hb2⟩
            · have hb2' : 57 < (Utf8.decode s k).1 := by omega
              clear hbad
              go_wp2
              go_ret2
              exact ⟨by rw [Hr.out, Hno.out]; rfl, hb2⟩
        · have hnx : ∀ ty, (Instr.next (.pointer (some ⟨w.heap.size, 0, none⟩)) true ty).run Tryd.prog wr = _ := fun ty => Lib.run_next_end_at wr w.heap.size s k ty hit hp
          have Hfull := Lib.hid (List.take_of_length_le (l := s.data.toList) (i := k) (by omega))
          clear hit
          by_cases hm : most < (digVal (s.data.toList.take k) : Int)
          · have Hm := Lib.hid hm
            go_wp2
            go_ret2
            refine ⟨?_, hb⟩
            have hA := hall.out
            have hM := Hm.out
            rw [Hfull.out] at hA hM
            rw [Hr.out, if_pos hA, if_pos hM]; rfl
          · have Hm := Lib.hid hm
            go_wp2
            go_ret2
            refine ⟨?_, hb⟩
            have hA := hall.out
            have hM := Hm.out
            rw [Hfull.out] at hA hM
            rw [Hr.out, if_pos hA, if_neg (by omega), Hfull.out]; rfl
end Go.Proofs.YtckbcnmcnhahhaaDoor
/- Walks: Lower, of the program and of the document. -/
namespace Go.Proofs.YtckbcnmcnhahhaaDoor
open Go Go.RowKit Go.Proofs.YtckbcnmcnhahhaaDoorW.PrintWords
set_option linter.unusedVariables false
set_option linter.unusedSimpArgs false

def lowB (c : UInt8) : UInt8 := if 65 ≤ c.toNat ∧ c.toNat ≤ 90 then UInt8.ofNat (c.toNat + 32) else c
def lowS (s : ByteArray) : ByteArray := ⟨(s.data.toList.map lowB).toArray⟩
theorem low_step (l : List UInt8) (k : Nat) (h : k < l.length) : (l.take k).map lowB ++ l.drop k = ((l.take k).map lowB ++ l.drop k) ∧ ((l.take k).map lowB ++ l.drop k).set k (lowB (l.getD k 0)) = (l.take (k + 1)).map lowB ++ l.drop (k + 1) ∧ ((l.take k).map lowB ++ l.drop k).getD k 0 = l.getD k 0 := by
  have hl : ((l.take k).map lowB).length = k := by simp; omega
  refine ⟨rfl, ?_, ?_⟩
  · rw [List.set_append_right _ _ (by omega), hl, Nat.sub_self, List.drop_eq_getElem_cons h, List.set_cons_zero, List.take_succ_eq_append_getElem h, List.map_append, List.getD_eq_getElem?_getD, List.getElem?_eq_getElem h]
    simp
  · rw [List.getD_eq_getElem?_getD, List.getElem?_append_right (by omega), hl, Nat.sub_self, List.getD_eq_getElem?_getD]
    rw [List.getElem?_drop, Nat.add_zero]
theorem low_same (l : List UInt8) (k : Nat) (h : k < l.length) (hc : lowB (l.getD k 0) = l.getD k 0) : (l.take k).map lowB ++ l.drop k = (l.take (k + 1)).map lowB ++ l.drop (k + 1) := by
  obtain ⟨_, h2, h3⟩ := low_step l k h
  rw [← h2, hc, ← h3]
  rw [List.getD_eq_getElem?_getD]
  apply List.ext_getElem?
  intro i
  by_cases hi : k = i
  · subst hi
    rw [List.getElem?_set_self (by simp; omega), List.getElem?_eq_getElem (by simp; omega)]; simp
  · rw [List.getElem?_set_ne hi]

set_option maxHeartbeats 2000000 in
set_option maxRecDepth 100000 in
theorem lower_any (s : ByteArray) (w : World) (hs : s.size ≤ 9223372036854775807) :
    Calls Tryd.prog 26 #[.string s] w fun e w' => e = .returned (.string (lowS s)) ∧ Below w.heap.size w w' := by
  have kb := print_bytes (P := Tryd.prog) 9 37 5 Tryd.underlying9 Tryd.underlying37 Tryd.underlying5 s w
  have Hrow := Aside0.mk (rowB_new w s)
  have Hbel := Aside0.mk (bytes_below (Below.refl w.heap.size w) (Nat.le_refl _) 5 s)
  obtain ⟨g, hg⟩ : ∃ g, w.heap.size = g := ⟨_, rfl⟩
  have Hg := Aside0.mk hg
  rw [hg] at kb Hrow
  clear hg
  generalize Lib.bytesWorld w 5 s = W3 at kb Hrow Hbel
  have hbl : s.data.toList.length = s.size := Array.length_toList
  have Hbl := Aside0.mk hbl
  clear hbl
  go_enter Tryd.func26, Tryd.ntmps26
  go_wp2
  go_loopw [10] (fun iv wr => ∃ k : Nat, k ≤ s.size ∧ iv = .int .i64 k ∧ Aside0 (RowB g ((s.data.toList.take k).map lowB ++ s.data.toList.drop k) wr) ∧ Aside0 (Below w.heap.size w wr)) (fun iv _ => s.size - (intOf iv).toNat)
  case atStart => exact ⟨0, Nat.zero_le _, rfl, ⟨by simpa using Hrow.out⟩, Hbel⟩
  case round =>
    obtain ⟨k, hk, rfl, HRow, HBel⟩ := hrel
    by_cases hlt : k < s.size
    · have hll : k < s.data.toList.length := by rw [Hbl.out]; exact hlt
      obtain ⟨_, h2, h3⟩ := low_step s.data.toList k hll
      have hcell := HRow.out k (by simp; omega)
      rw [h3] at hcell
      have hc1 := hcell.1
      have hc2 := hcell.2
      have HS := Aside0.mk (low_same s.data.toList k hll)
      have HSet := Aside0.mk (HRow.out.set k (lowB (s.data.toList.getD k 0)))
      rw [h2] at HSet
      clear h2 h3 hcell hll
      have hcb := (s.data.toList.getD k 0).toNat_lt
      generalize hcc : s.data.toList.getD k 0 = c at *
      clear hcc
      by_cases hup : 65 ≤ c.toNat ∧ c.toNat ≤ 90
      · have hu1 : (65 : Int) ≤ (c.toNat : Int) := by omega
        have hu2 : (c.toNat : Int) ≤ 90 := by omega
        have HL := Aside0.mk (show ((lowB c).toNat : Int) = (c.toNat : Int) + 97 - 65 by unfold lowB; rw [if_pos hup, UInt8.toNat_ofNat', Nat.mod_eq_of_lt (by omega)]; omega)
        clear hup
        go_wp2
        go_roundw
        case rel => exact ⟨k + 1, by omega, by go_num, ⟨by have h := HSet.out; rw [HL.out] at h; exact h⟩, ⟨HBel.out.setCell (p := ⟨g, _, none⟩) (by rw [Hg.out]; exact Nat.le_refl _) _⟩⟩
        case measure => simp [intOf]; omega
      · have HL := Aside0.mk (HS.out (by unfold lowB; rw [if_neg hup]))
        by_cases hu1 : (65 : Int) ≤ (c.toNat : Int)
        · have hu2 : (90 : Int) < (c.toNat : Int) := by omega
          clear hup
          go_wp2
          go_roundw
          case rel => exact ⟨k + 1, by omega, by go_num, ⟨by rw [← HL.out]; exact HRow.out⟩, HBel⟩
          case measure => simp [intOf]; omega
        · have hu2 : (c.toNat : Int) < 65 := by omega
          clear hup hu1
          go_wp2
          go_roundw
          case rel => exact ⟨k + 1, by omega, by go_num, ⟨by rw [← HL.out]; exact HRow.out⟩, HBel⟩
          case measure => simp [intOf]; omega
    · obtain rfl : k = s.size := by omega
      have hfin : (s.data.toList.take s.size).map lowB ++ s.data.toList.drop s.size = s.data.toList.map lowB := by
        rw [← Hbl.out, List.take_length, List.drop_length, List.append_nil]
      have hrow := HRow.out
      rw [hfin] at hrow
      have hcv := hrow.text s.size (grownCap w s.size 0 5) (by rw [List.length_map, Hbl.out])
      clear hrow hfin
      go_wp2
      go_ret
      exact ⟨rfl, HBel.out⟩

end Go.Proofs.YtckbcnmcnhahhaaDoor
