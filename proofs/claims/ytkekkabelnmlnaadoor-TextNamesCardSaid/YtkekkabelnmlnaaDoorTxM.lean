/- Bytes that '[]byte(s)' has made: a row known cell by cell; stores into it; the text of it. -/
import Derived.Test.YtkekkabelnmlnaaDoorProg
import Derived.Test.YtkekkabelnmlnaaDoorWWords
import Derived.WalkKit
import Derived.KernelRfl
import Derived.Lib.Hide
import Derived.RowKit3
import Derived.Test.YtkekkabelnmlnaaDoorRn
import Derived.Test.YtkekkabelnmlnaaDoorShelf
import Derived.Lib.OthersKept
import Derived.OneCell
import Derived.Maps.AppendAt
import Derived.Lib.Builder
import Derived.Lib.UnsafeStr
import Derived.Laws.Externs
import Derived.Lib.FrozenHead2
import Derived.Test.YtkekkabelnmlnaaDoorPAx
import Derived.Shelf.Strings.SlTrimAscii
import Derived.Shelf.Strings.FuncGrows
namespace Go.Proofs.YtkekkabelnmlnaaDoor
open Go Go.RowKit Go.Proofs.YtkekkabelnmlnaaDoorW.PrintWords
set_option linter.unusedVariables false

/-- A row of bytes in block g, cell by cell. -/
def RowB (g : Nat) (L : List UInt8) (w : World) : Prop := ∀ i, i < L.length → w.cell? ⟨g, i, none⟩ = some (.int .u8 ((L.getD i 0).toNat : Int)) ∧ w.frozen? ⟨g, i, none⟩ = false
theorem rowB_new (w : World) (s : ByteArray) : RowB w.heap.size s.data.toList (Lib.bytesWorld w 5 s) := by
  intro i hi
  rw [Array.length_toList] at hi
  refine ⟨Lib.bytesWorld_cell w 5 s i hi, ?_⟩
  have hs : (Lib.bytesCells w 5 s).size ≥ s.size := by simp [Lib.bytesCells]
  have hz : s.data.size = s.size := rfl
  simp only [World.frozen?, Lib.bytesWorld_at_new]
  simp; omega
theorem RowB.set {g : Nat} {L : List UInt8} {w : World} (h : RowB g L w) (i : Nat) (c : UInt8) : RowB g (L.set i c) (w.setCell ⟨g, i, none⟩ (.int .u8 (c.toNat : Int))) := by
  intro j hj
  rw [List.length_set] at hj
  obtain ⟨h1, h2⟩ := h j hj
  refine ⟨?_, by rw [World.frozen?_setCell]; exact h2⟩
  by_cases he : i = j
  · subst he
    rw [World.cell?_setCell_same _ _ _ h1, List.getD_eq_getElem?_getD, List.getElem?_set_self hj, Option.getD_some]
  · rw [World.cell?_setCell_other _ _ _ _ (fun h => he (by injection h)), h1, List.getD_eq_getElem?_getD, List.getD_eq_getElem?_getD, List.getElem?_set_ne he]
theorem RowB.drewN {g : Nat} {L : List UInt8} {w : World} (h : RowB g L w) (n : Nat) : RowB g L (w.drewN n) := h
theorem RowB.drew {g : Nat} {L : List UInt8} {w : World} (h : RowB g L w) : RowB g L w.drew := h
theorem row_data_inj {a b : ByteArray} (h : a.data.toList = b.data.toList) : a = b := by cases a; cases b; simp at h; rw [h]
theorem row_str (L : List UInt8) : strOfNums (L.map fun c => (c.toNat : Int)) = ⟨L.toArray⟩ := by
  apply row_data_inj
  show ((L.map fun c => (c.toNat : Int)).map fun n => UInt8.ofNat n.toNat).toArray.toList = L.toArray.toList
  simp only [List.map_map, List.toList_toArray]
  conv => rhs; rw [← List.map_id L]
  apply List.map_congr_left
  intro c _
  show UInt8.ofNat ((c.toNat : Int).toNat) = c
  rw [Int.toNat_natCast, UInt8.ofNat_toNat]
/-- The text of such a row. -/
theorem RowB.text {g : Nat} {L : List UInt8} {w : World} (h : RowB g L w) (n cap : Nat) (hn : L.length = n) : (convert 38 9 (.slice (some ⟨g, 0, none⟩) n cap)).run Tryd.prog w = .ok (.string ⟨L.toArray⟩) w := by
  have hcv := run_convert_bytes_arg (P := Tryd.prog) w 38 5 Tryd.underlying38 Tryd.underlying5 g 0 n cap (L.map fun c => (c.toNat : Int)) (by rw [List.length_map, hn]) (fun i hi => by
    have h1 := (h i (by omega)).1
    rw [Nat.zero_add, h1, List.getD_eq_getElem?_getD, List.getD_eq_getElem?_getD, List.getElem?_map, List.getElem?_eq_getElem (by omega)]; rfl) 9 Tryd.underlying9
  rw [← row_str]
  exact hcv
end Go.Proofs.YtkekkabelnmlnaaDoor
/- Walks of the text package's functions that range over a string: Decode, Count, Digits. -/
namespace Go.Proofs.YtkekkabelnmlnaaDoor
open Go Go.RowKit
set_option linter.unusedVariables false

theorem iter0 (w : World) (s : ByteArray) : (w.iter s 0).heap[w.heap.size]? = some (.stringIter s 0) := World.iter_heap w s 0

theorem isEmpty_of (s : ByteArray) (h : s.size = 0) : s.toList.isEmpty = true := by
  have : s.data.toList.length = 0 := by rw [Array.length_toList]; exact h
  rw [ByteArray.toList_eq, List.eq_nil_of_length_eq_zero this]; rfl
theorem isEmpty_not (s : ByteArray) (h : ¬ s.size = 0) : s.toList.isEmpty = false := by
  have : s.data.toList.length ≠ 0 := by rw [Array.length_toList]; exact h
  rw [ByteArray.toList_eq]
  cases hl : s.data.toList with
  | nil => simp [hl] at this
  | cons a l => rfl
theorem pos_of {w : World} {k : Nat} {s : ByteArray} {p : Nat} (h : w.heap[k]? = some (.stringIter s p)) : w.iterPos k = p := by simp only [World.iterPos, h]

set_option maxHeartbeats 1000000 in
/-- Encode: a rune's UTF-8, or 150. -/
theorem encode_any (r : Int) (w : World) :
    Calls Tryd.prog 14 #[.int .i32 r] w fun e w' => e = .returned (.tuple (if Lib.validRune r = true then #[.string (Utf8.encode r), .int .i64 0] else #[.string ⟨#[]⟩, .int .i64 150])) ∧ w' = w := by
  cases hv : Lib.validRune r with
  | true =>
    go_enter Tryd.func14, Tryd.ntmps14
    go_wp2_with (go_at_call 30; refine (Tryd.utf8_ValidRune _ _).mono ?_; rintro e w' ⟨rfl, rfl⟩; rw [hv])
    go_ret2
    exact ⟨rfl, rfl⟩
  | false =>
    go_enter Tryd.func14, Tryd.ntmps14
    go_wp2_with (go_at_call 30; refine (Tryd.utf8_ValidRune _ _).mono ?_; rintro e w' ⟨rfl, rfl⟩; rw [hv])
    go_ret2
    exact ⟨rfl, rfl⟩
end Go.Proofs.YtkekkabelnmlnaaDoor
/- Walks of the text package's functions that hand closures to each: Runes, Valid. -/
namespace Go.Proofs.YtkekkabelnmlnaaDoor
open Go Go.RowKit
set_option linter.unusedVariables false

theorem info32 : (Tryd.prog.info? 21).map (fun i => (i.zero, i.size, i.bytes)) = some (some (.int .i32 0), 1, 4) := by kernel_rfl

/-- What a closure is asked to keep: what the relation says, over new blocks and over an iterator's steps. -/
structure EachInv (B : Nat) (Inv : List (Nat × Nat) → World → Prop) : Prop where
  alloc : ∀ l W o, Inv l W → Inv l (W.alloc o)
  step : ∀ l (W : World) (k : Nat) (s : ByteArray) (p p' : Nat), B ≤ k → W.heap[k]? = some (Obj.stringIter s p) → Inv l W → Inv l (W.iterAt k s p')

def ItersKept (W W' : World) : Prop := ∀ (k : Nat) (s : ByteArray) (p : Nat), W.heap[k]? = some (Obj.stringIter s p) → W'.heap[k]? = some (Obj.stringIter s p)

/-- What has been told so far, and what is still to come. -/
def eachAt (s : ByteArray) (k pos : Nat) (last at_ : Value) (done : List (Nat × Nat)) : Prop :=
  (pos = 0 ∧ done = [] ∧ last = .int .i32 0 ∧ at_ = .int .i64 (-1)) ∨
  (∃ q : Nat, q < s.size ∧ pos = q + (Utf8.decode s q).2 ∧ last = .int .i32 (Utf8.decode s q).1 ∧ at_ = .int .i64 q ∧ ∃ f, s.size ≤ q + f ∧ done ++ rnFrom s f q = rn s)

set_option maxHeartbeats 2000000 in
theorem each_any (s : ByteArray) (F : Nat) (a : Addr) (Inv : List (Nat × Nat) → World → Prop) (w : World) (B : Nat) (hI : EachInv B Inv) (hB : B ≤ w.heap.size) (hs : s.size ≤ 9223372036854775807) (h0 : Inv [] w)
    (hen : ∀ args W, (callFunc F args).run Tryd.prog W = .ok (.enter F args) W)
    (hcl : ∀ l W (r n : Nat), Inv l W → l.length < (rn s).length → Calls Tryd.prog F #[.int .i32 r, .int .i64 n, .pointer (some a)] W fun e W' => e = .returned (.tuple #[]) ∧ Inv (l ++ [(r, n)]) W' ∧ ItersKept W W') :
    Calls Tryd.prog 28 #[.string s, .func (.func F) #[] #[.pointer (some a)]] w fun e w' => e = .returned (.tuple #[]) ∧ Inv (rn s) w' := by
  have Hcl := Lib.hid hcl
  have HI := Lib.hid hI
  have H0 := Lib.hid h0
  clear hcl hI h0
  go_enter Tryd.func28, Tryd.ntmps28
  go_wp2
  go_loopw [4, 5] (fun last at_ wr => ∃ (pos : Nat) (done : List (Nat × Nat)), wr.heap[w.heap.size]? = some (.stringIter s pos) ∧ pos ≤ s.size ∧ Hid (eachAt s w.heap.size pos last at_ done) ∧ Hid (Inv done wr)) (fun _ _ wr => s.size - wr.iterPos w.heap.size)
  case atStart => exact ⟨0, [], iter0 w s, by omega, .inl ⟨rfl, rfl, rfl, rfl⟩, HI.out.alloc _ _ _ H0.out⟩
  case round =>
    obtain ⟨pos, done, hit, hps, hat, hinv⟩ := hrel
    have Hps := Lib.hid (pos_of hit)
    by_cases hp : pos < s.size
    · have hnx : ∀ ty, (Instr.next (.pointer (some ⟨w.heap.size, 0, none⟩)) true ty).run Tryd.prog wr = _ := fun ty => Lib.run_next_any_at wr w.heap.size s pos ty hit hp
      have hit2 := Lib.iterAt_heap wr w.heap.size s pos (pos + (Utf8.decode s pos).2) hit
      have hd := dec_pos s pos hp
      have hfit := dec_fits s pos hp
      have Hps2 := Lib.hid (pos_of hit2)
      have Hinv2 := Lib.hid (HI.out.step _ _ _ _ _ (pos + (Utf8.decode s pos).2) hB hit hinv.out)
      rcases hat.out with ⟨rfl, rfl, rfl, rfl⟩ | ⟨q, hq, rfl, rfl, rfl, f, hf, hdone⟩
      · clear hit hat
        have hl : Hid ((([] : List (Nat × Nat)) ++ rnFrom s s.size 0) = rn s) := by show _ = _; rfl
        simp only [Nat.zero_add] at *
        go_wp2
        go_roundw
        case rel => exact ⟨(Utf8.decode s 0).2, [], hit2, by omega, .inr ⟨0, hp, by simp, rfl, rfl, s.size, by omega, hl.out⟩, Hinv2.out⟩
        case measure =>
          rw [Hps.out, Hps2.out]
          omega
      · obtain ⟨f, rfl⟩ : ∃ m, f = m + 1 := ⟨f - 1, by omega⟩
        have hdq := dec_pos s q hq
        have Hd := Lib.hid (show done ++ (Utf8.decode s q :: rnFrom s f (q + (Utf8.decode s q).2)) = rn s by rw [← hdone]; simp only [rnFrom, hq, if_true])
        have hlen : done.length < (rn s).length := by
          have h2 := congrArg List.length hdone
          simp only [List.length_append, rnFrom, hq, if_true, List.length_cons] at h2
          omega
        clear hit hat hdone
        go_wp2
        rw [show ((q : Int) + ((Utf8.decode s q).2 : Int) - (q : Int)) = ((Utf8.decode s q).2 : Int) by omega]
        refine (Hcl.out done _ _ _ Hinv2.out hlen).mono ?_
        rintro e W1 ⟨rfl, hinv3, hk⟩
        have hit3 := hk _ _ _ hit2
        have Hinv3 := Lib.hid hinv3
        have Hps3 := Lib.hid (pos_of hit3)
        clear hinv3 hk hit2
        go_wp2
        go_roundw
        case rel => exact ⟨_, done ++ [Utf8.decode s q], hit3, hfit, .inr ⟨_, hp, rfl, rfl, rfl, f, by omega, by rw [List.append_assoc]; exact Hd.out⟩, Hinv3.out⟩
        case measure =>
          rw [Hps.out, Hps3.out]
          omega
    · have hnx : ∀ ty, (Instr.next (.pointer (some ⟨w.heap.size, 0, none⟩)) true ty).run Tryd.prog wr = _ := fun ty => Lib.run_next_end_at wr w.heap.size s pos ty hit hp
      rcases hat.out with ⟨rfl, rfl, rfl, rfl⟩ | ⟨q, hq, rfl, rfl, rfl, f, hf, hdone⟩
      · have Hnil := Lib.hid (rnFrom_end s s.size 0 hp)
        clear hat
        go_wp2
        go_end0
        refine ⟨rfl, ?_⟩
        show Inv (rnFrom s s.size 0) _
        rw [Hnil.out]
        exact hinv.out
      · obtain ⟨f, rfl⟩ : ∃ m, f = m + 1 := ⟨f - 1, by omega⟩
        have hdq := dec_pos s q hq
        have hfq := dec_fits s q hq
        have Hd := Lib.hid (show done ++ [Utf8.decode s q] = rn s by rw [← hdone]; simp only [rnFrom, hq, if_true]; rw [rnFrom_end s f _ hp])
        have hlen : done.length < (rn s).length := by
          have h2 := congrArg List.length hdone
          simp only [List.length_append, rnFrom, hq, if_true, List.length_cons] at h2
          omega
        clear hit hat hdone
        go_wp2
        rw [show ((s.size : Int) - (q : Int)) = ((Utf8.decode s q).2 : Int) by omega]
        refine (Hcl.out done _ _ _ hinv.out hlen).mono ?_
        rintro e W1 ⟨rfl, hinv3, hk⟩
        have Hinv3 := Lib.hid hinv3
        clear hinv3 hk
        go_wp2
        go_end0
        exact ⟨rfl, by rw [← Hd.out]; exact Hinv3.out⟩

/-! ### Runes -/
def runeCells (l : List (Nat × Nat)) : List Value := l.map fun x => .int .i32 (x.1 : Int)

/-- The slice that the closure of Runes fills, in the variable's block b. -/
def RunesInv (w : World) (b : Nat) (l : List (Nat × Nat)) (W : World) : Prop :=
  ∃ v, W.heap[b]? = some (.cells #[v] 25 (0, 0)) ∧ W.ownsRow (b + 1) 21 1 v l.length (runeCells l) ∧ Below b w W ∧ b < W.heap.size

theorem runesInv_each (w : World) (b : Nat) : EachInv b (RunesInv w b) where
  alloc := fun l W o ⟨v, h1, h2, h3, h4⟩ => ⟨v, (Lib.alloc_old W o b h4).trans h1, h2.alloc _, h3.alloc (by omega) _, by simp; omega⟩
  step := fun l W k s p p' hB hk ⟨v, h1, h2, h3, h4⟩ => by
    have hkb : b ≠ k := by rintro rfl; rw [hk] at h1; cases h1
    refine ⟨v, (Lib.iterAt_other W k b s p' hkb).trans h1, ⟨h2.1, ?_⟩, ?_, by rw [Lib.iterAt_size]; exact h4⟩
    · rcases h2.2 with hn | ⟨g, cap, cur, hv, hbg, hg, rest⟩
      · exact .inl hn
      · have hkg : g ≠ k := by rintro rfl; rw [hk] at hg; cases hg
        exact .inr ⟨g, cap, cur, hv, hbg, (Lib.iterAt_other W k g s p' hkg).trans hg, rest⟩
    · exact Lib.below_iterAt h3 hB s p'

set_option maxHeartbeats 1000000 in
theorem runes1_any (w : World) (b : Nat) (hb : w.heap.size ≤ b) (l : List (Nat × Nat)) (W : World) (r n : Nat) (hI : RunesInv w b l W) (hl : (l.length + 1) * 4 ≤ 140737488355328) :
    Calls Tryd.prog 29 #[.int .i32 r, .int .i64 n, .pointer (some ⟨b, 0, none⟩)] W fun e W' => e = .returned (.tuple #[]) ∧ RunesInv w b (l ++ [(r, n)]) W' ∧ ItersKept W W' := by
  obtain ⟨v, hv, hown, hbw, hlt⟩ := hI
  obtain ⟨i0, hi, hz0, hz1, hz2⟩ := info_parts info32
  have c0 : W.cell? ⟨b, 0, none⟩ = some v := by rw [Lib.cell_of_heap hv]; rfl
  have Hv := Lib.hid hv
  clear hv
  go_enter Tryd.func29, Tryd.ntmps29
  go_wp2_with (at_builtin; refine wpList_append_own _ rfl _ _ 25 rfl (b + 1) 21 i0 (.int .i32 0) 1 4 Tryd.underlying25 hi hz0 hz1 hz2 rfl (by decide) _ _ _ rfl (hown.alloc _) ⟨W.heap.size, 0, none⟩ 1 1 [.int .i32 r] rfl rfl ?c1 ?c2 ?c3 ?c4 ?c5 ?_)
  case c1 => exact cell_one_new _ _ _
  case c2 => intro u hu; simp at hu; subst hu; rfl
  case c3 => unfold maxLen; omega
  case c4 => omega
  case c5 => simp; omega
  intro v' w2 hown' hgrow _
  have hne : some b ≠ v.ownBlock := by
    intro h
    rcases hown.2 with ⟨rfl, _⟩ | ⟨g, cap, cur, rfl, hg, _⟩
    · simp [Value.ownBlock] at h
    · simp [Value.ownBlock] at h; omega
  have hb2 : w2.heap[b]? = some (.cells #[v] 25 (0, 0)) := by
    rw [hgrow.block b (by simp; omega) hne]
    exact (Lib.alloc_old W _ b hlt).trans Hv.out
  have d0 : w2.cell? ⟨b, 0, none⟩ = some v := by rw [Lib.cell_of_heap hb2]; rfl
  have f0 : w2.frozen? ⟨b, 0, none⟩ = false := Lib.frozen_of_heap hb2 0
  have Hb2 := Lib.hid hb2
  clear hb2
  obtain ⟨ao, n', cap, rfl⟩ : ∃ ao n' cap, v' = .slice ao n' cap := by
    rcases hown'.2 with ⟨hv, _⟩ | ⟨g, cap, cur, hv, _⟩
    · exact ⟨_, _, _, hv⟩
    · exact ⟨_, _, _, hv⟩
  have Hs := Lib.hid (one_setCell Hb2.out (u := .slice ao n' cap))
  have Hgr := Lib.hid hgrow
  have Hown := Lib.hid hown'
  clear hgrow hown'
  go_wp2
  go_end0
  have hlt2 : b < w2.heap.size := lt_of_block Hb2.out
  refine ⟨rfl, ⟨_, Hs.out, ?_, ?_, by simp [World.setCell]; exact hlt2⟩, ?_⟩
  · refine ownsRow_setCell_below ?_ (show (⟨b, 0, none⟩ : Addr).block < b + 1 by simp) _
    rw [List.length_append, runeCells, List.map_append]
    exact Hown.out
  · exact ((hbw.alloc (by omega) _).grown Hgr.out (by simp; omega) (fun k hk => by
      rcases hown.2 with ⟨rfl, _⟩ | ⟨g, cap, cur, rfl, hg, _⟩
      · simp [Value.ownBlock] at hk
      · simp [Value.ownBlock] at hk; omega)).setCell (p := ⟨b, 0, none⟩) (Nat.le_refl b) _
  · intro k s p hk
    have hkl : k < W.heap.size := lt_of_block hk
    have hkb : k ≠ b := by rintro rfl; rw [Hv.out] at hk; cases hk
    rw [Below.heap_setCell _ _ _ _ (by simpa using hkb), Hgr.out.block k (by simp; omega) ?_]
    · exact (Lib.alloc_old W _ k hkl).trans hk
    · intro he
      rcases hown.2 with ⟨rfl, _⟩ | ⟨g, cap, cur, rfl, hg, hgg, _⟩
      · simp [Value.ownBlock] at he
      · have : k = g := by simpa [Value.ownBlock] using he
        rw [this, hgg] at hk; cases hk

set_option maxHeartbeats 1000000 in
/-- Runes: the list of the runes, in a row of the call's own. -/
theorem runes_any (s : ByteArray) (w : World) (hs : s.size ≤ 9223372036854775807) (hl : (rn s).length * 4 ≤ 140737488355328) :
    Calls Tryd.prog 13 #[.string s] w fun e w' => ∃ v, e = .returned v ∧ w'.ownsRow w.heap.size 21 1 v (rn s).length (runeCells (rn s)) ∧ Below w.heap.size w w' := by
  go_enter Tryd.func13, Tryd.ntmps13
  go_wp2_with (go_at_call 28; refine (each_any s 29 ⟨w.heap.size, 0, none⟩ (RunesInv w w.heap.size) _ w.heap.size (runesInv_each w w.heap.size) (by simp) hs ?h0 (enters_of Tryd.func29 (by kernel_rfl) rfl) ?h1).mono ?_)
  case h0 => exact ⟨.slice none 0 0, heap_alloc_new w _, World.ownsRow_nil _ _ _ _, (Below.refl _ w).alloc (Nat.le_refl _) _, by simp⟩
  case h1 => exact fun l W r n hI hl2 => runes1_any w w.heap.size (Nat.le_refl _) l W r n hI (by omega)
  rintro e W1 ⟨rfl, v, hv, hown, hb, hlt⟩
  have c0 : W1.cell? ⟨w.heap.size, 0, none⟩ = some v := by rw [Lib.cell_of_heap hv]; rfl
  clear hv
  go_wp2
  go_ret
  exact ⟨v, rfl, ⟨hown.1, hown.2.imp id fun ⟨g, cap, cur, h1, h2, h3⟩ => ⟨g, cap, cur, h1, by omega, h3⟩⟩, hb⟩


/-! ### Valid -/
def okRune (x : Nat × Nat) : Bool := x.1 != 65533 || decide (1 < x.2)

def ValidInv (w : World) (b : Nat) (l : List (Nat × Nat)) (W : World) : Prop :=
  W.heap[b]? = some (.cells #[.bool (l.all okRune)] 4 (0, 0)) ∧ Below b w W ∧ b < W.heap.size

theorem validInv_each (w : World) (b : Nat) : EachInv b (ValidInv w b) where
  alloc := fun l W o ⟨h1, h3, h4⟩ => ⟨(Lib.alloc_old W o b h4).trans h1, h3.alloc (by omega) _, by simp; omega⟩
  step := fun l W k s p p' hB hk ⟨h1, h3, h4⟩ => by
    have hkb : b ≠ k := by rintro rfl; rw [hk] at h1; cases h1
    exact ⟨(Lib.iterAt_other W k b s p' hkb).trans h1, Lib.below_iterAt h3 hB s p', by rw [Lib.iterAt_size]; exact h4⟩

theorem validInv_put {w : World} {b : Nat} {l : List (Nat × Nat)} {W : World} (h : ValidInv w b l W) (x : Nat × Nat) (c : Bool) (hc : c = (l ++ [x]).all okRune) :
    ValidInv w b (l ++ [x]) (W.setCell ⟨b, 0, none⟩ (.bool c)) ∧ ItersKept W (W.setCell ⟨b, 0, none⟩ (.bool c)) := by
  obtain ⟨h1, h3, h4⟩ := h
  subst hc
  refine ⟨⟨one_setCell h1, h3.setCell (p := ⟨b, 0, none⟩) (Nat.le_refl b) _, by simp [World.setCell]; exact h4⟩, fun k s p hk => ?_⟩
  have hkb : k ≠ b := by rintro rfl; rw [h1] at hk; cases hk
  rw [Below.heap_setCell _ _ _ _ (by simpa using hkb)]
  exact hk

set_option maxHeartbeats 1000000 in
theorem valid1_any (w : World) (b : Nat) (l : List (Nat × Nat)) (W : World) (r n : Nat) (hI : ValidInv w b l W) :
    Calls Tryd.prog 32 #[.int .i32 r, .int .i64 n, .pointer (some ⟨b, 0, none⟩)] W fun e W' => e = .returned (.tuple #[]) ∧ ValidInv w b (l ++ [(r, n)]) W' ∧ ItersKept W W' := by
  have c0 := cell_of_one hI.1
  have f0 := free_of_one hI.1
  have HI := Lib.hid hI
  clear hI
  generalize hq : l.all okRune = q at *
  have Hq := Lib.hid hq
  clear hq
  cases q with
  | false =>
    go_enter Tryd.func32, Tryd.ntmps32
    go_wp2
    go_end0
    exact ⟨rfl, validInv_put HI.out _ _ (by simp [List.all_append, Hq.out])⟩
  | true =>
    by_cases h1 : r = 65533
    · by_cases h2 : 1 < n
      · have g1 : ((r : Int) != 65533) = false := by simp [h1]
        have g2 : decide (1 < (n : Int)) = true := decide_eq_true (by omega)
        have Hr := Lib.hid (show okRune (r, n) = true by simp [okRune, h2])
        clear h1 h2
        go_enter Tryd.func32, Tryd.ntmps32
        go_wp2
        go_end0
        exact ⟨rfl, validInv_put HI.out _ _ (by simp [List.all_append, Hq.out, Hr.out])⟩
      · have g1 : ((r : Int) != 65533) = false := by simp [h1]
        have g2 : decide (1 < (n : Int)) = false := decide_eq_false (by omega)
        have Hr := Lib.hid (show okRune (r, n) = false by simp [okRune, h1, h2])
        clear h1 h2
        go_enter Tryd.func32, Tryd.ntmps32
        go_wp2
        go_end0
        exact ⟨rfl, validInv_put HI.out _ _ (by simp [List.all_append, Hq.out, Hr.out])⟩
    · have g1 : ((r : Int) != 65533) = true := by simp; omega
      have Hr := Lib.hid (show okRune (r, n) = true by simp [okRune, h1])
      clear h1
      go_enter Tryd.func32, Tryd.ntmps32
      go_wp2
      go_end0
      exact ⟨rfl, validInv_put HI.out _ _ (by simp [List.all_append, Hq.out, Hr.out])⟩

set_option maxHeartbeats 1000000 in
/-- Valid: no wrong byte. -/
theorem valid_any (s : ByteArray) (w : World) (hs : s.size ≤ 9223372036854775807) :
    Calls Tryd.prog 17 #[.string s] w fun e w' => e = .returned (.bool ((rn s).all okRune)) ∧ Below w.heap.size w w' := by
  go_enter Tryd.func17, Tryd.ntmps17
  go_wp2_with (go_at_call 28; refine (each_any s 32 ⟨w.heap.size, 0, none⟩ (ValidInv w w.heap.size) _ w.heap.size (validInv_each w w.heap.size) (by simp) hs ?h0 (enters_of Tryd.func32 (by kernel_rfl) rfl) ?h1).mono ?_)
  case h0 => exact ⟨heap_alloc_new w _, (Below.refl _ w).alloc (Nat.le_refl _) _, by simp⟩
  case h1 => exact fun l W r n hI hl2 => valid1_any w w.heap.size l W r n hI
  rintro e W1 ⟨rfl, hv, hb, hlt⟩
  have c0 := cell_of_one hv
  clear hv
  go_wp2
  go_ret
  exact ⟨rfl, hb⟩

end Go.Proofs.YtkekkabelnmlnaaDoor
/- strings.Builder at this program: copyCheck, WriteString, WriteByte over the library's relation IsBuilderF; String is the shelf's. -/
namespace Go.Proofs.YtkekkabelnmlnaaDoor
open Go Go.RowKit
set_option linter.unusedVariables false

theorem infoByte : (Tryd.prog.info? 5).map (fun i => (i.zero, i.size, i.bytes)) = some (some (.int .u8 0), 1, 1) := by kernel_rfl

end Go.Proofs.YtkekkabelnmlnaaDoor
/- Walks: Digits (by runes), Text (a Builder over a list of runes). -/
namespace Go.Proofs.YtkekkabelnmlnaaDoor
open Go Go.RowKit
set_option linter.unusedVariables false

/-- The number of digits, the leftmost first. -/
def digVal (l : List UInt8) : Nat := l.foldl (fun n c => 10 * n + (c.toNat - 48)) 0
def isDig (c : UInt8) : Bool := decide (48 ≤ c.toNat) && decide (c.toNat ≤ 57)
theorem digVal_snoc (l : List UInt8) (c : UInt8) : digVal (l ++ [c]) = 10 * digVal l + (c.toNat - 48) := by simp [digVal]
theorem digVal_from (l : List UInt8) : ∀ n, l.all isDig = true → l.foldl (fun n c => 10 * n + (c.toNat - 48)) n + 1 ≤ (n + 1) * 10 ^ l.length := by
  induction l with
  | nil => intro n _; simp
  | cons c l ih =>
    intro n h
    simp only [List.all_cons, Bool.and_eq_true, isDig, decide_eq_true_eq] at h
    have h1 := ih (10 * n + (c.toNat - 48)) h.2
    simp only [List.foldl_cons, List.length_cons, Nat.pow_succ]
    refine Nat.le_trans h1 ?_
    rw [Nat.mul_comm (10 ^ l.length) 10, ← Nat.mul_assoc]
    exact Nat.mul_le_mul_right _ (by omega)
theorem digVal_lt (l : List UInt8) (h : l.all isDig = true) : digVal l < 10 ^ l.length := by
  have := digVal_from l 0 h
  unfold digVal
  omega
theorem digVal_le18 (l : List UInt8) (h : l.all isDig = true) (hl : l.length ≤ 18) : digVal l < 1000000000000000000 := by
  refine Nat.lt_of_lt_of_le (digVal_lt l h) ?_
  have : (10 : Nat) ^ l.length ≤ 10 ^ 18 := Nat.pow_le_pow_right (by omega) hl
  simpa using this
theorem digVal_le17 (l : List UInt8) (h : l.all isDig = true) (hl : l.length ≤ 17) : digVal l < 100000000000000000 := by
  refine Nat.lt_of_lt_of_le (digVal_lt l h) ?_
  have : (10 : Nat) ^ l.length ≤ 10 ^ 17 := Nat.pow_le_pow_right (by omega) hl
  simpa using this

def headNought (s : ByteArray) : Bool := decide (s.data.toList.head? = some 48)
def digitsRes (s : ByteArray) (most : Int) : Int × Int :=
  if s.size < 1 then (0, 150) else if 18 < s.size then (0, 150) else if 1 < s.size ∧ headNought s = true then (0, 150)
  else if s.data.toList.all isDig = true then (if most < (digVal s.data.toList : Int) then (0, 3) else ((digVal s.data.toList : Int), 0)) else (0, 150)

theorem take_snoc_b (s : ByteArray) (k : Nat) (h : k < s.size) : s.data.toList.take (k + 1) = s.data.toList.take k ++ [s[k]'h] := by
  rw [List.take_succ_eq_append_getElem (by simpa using h)]; rfl

theorem head_byte (s : ByteArray) (h : 0 < s.size) : s.data.toList.head? = some (s[0]'h) := by
  have h' : 0 < s.data.toList.length := by rw [Array.length_toList]; exact h
  rw [List.head?_eq_getElem?, List.getElem?_eq_getElem h']; rfl

theorem all_take_succ (s : ByteArray) (k : Nat) (h : k < s.size) : (s.data.toList.take (k + 1)).all isDig = ((s.data.toList.take k).all isDig && isDig (s[k]'h)) := by
  rw [take_snoc_b s k h, List.all_append]; simp

theorem all_false_at (s : ByteArray) (k : Nat) (h : k < s.size) (hk : isDig (s[k]'h) = false) : s.data.toList.all isDig = false := by
  rw [List.all_eq_false]
  refine ⟨s[k]'h, ?_, by simp [hk]⟩
  exact Array.getElem_mem_toList (xs := s.data) h

theorem dec_dig (s : ByteArray) (k : Nat) (h : k < s.size) (hd : isDig (s[k]'h) = false) : (Utf8.decode s k).1 < 48 ∨ 57 < (Utf8.decode s k).1 := by
  by_cases ha : (s[k]'h).toNat < 128
  · rw [decode_ascii s k h ha]
    simp only [isDig, Bool.and_eq_false_iff, decide_eq_false_iff_not] at hd
    omega
  · have := (decode_high s k h (by omega)).1
    omega

def RetPair (p : Int × Int) (e : Ending) : Prop := e = .returned (.tuple #[.int .i64 p.1, .int .i64 p.2])

set_option maxHeartbeats 2000000 in
theorem digits_any (s : ByteArray) (most : Int) (w : World) :
    Calls Tryd.prog 16 #[.string s, .int .i64 most] w fun e w' => RetPair (digitsRes s most) e ∧ Below w.heap.size w w' := by
  by_cases h1 : s.size < 1
  · have Hr := Lib.hid (show digitsRes s most = (0, 150) by simp only [digitsRes, h1, if_true])
    go_enter Tryd.func16, Tryd.ntmps16
    go_wp2
    go_ret2
    exact ⟨by rw [Hr.out]; rfl, Below.refl _ _⟩
  by_cases h2 : 18 < s.size
  · have Hr := Lib.hid (show digitsRes s most = (0, 150) by simp only [digitsRes, h1, h2, if_true, if_false])
    go_enter Tryd.func16, Tryd.ntmps16
    go_wp2
    go_ret2
    exact ⟨by rw [Hr.out]; rfl, Below.refl _ _⟩
  have h0 : 0 < s.size := by omega
  by_cases h3 : 1 < s.size ∧ headNought s = true
  · have Hr := Lib.hid (show digitsRes s most = (0, 150) by simp only [digitsRes, h1, h2, h3, if_false]; simp)
    have hx : (((s[0]'h0).toNat : Int) == 48) = true := by
      have := h3.2
      simp only [headNought, head_byte s h0, decide_eq_true_eq, Option.some.injEq] at this
      rw [this]; rfl
    have h31 := h3.1
    clear h3
    go_enter Tryd.func16, Tryd.ntmps16
    go_wp2
    go_ret2
    exact ⟨by rw [Hr.out]; rfl, Below.refl _ _⟩
  · have Hr := Lib.hid (show digitsRes s most = (if s.data.toList.all isDig = true then (if most < (digVal s.data.toList : Int) then (0, 3) else ((digVal s.data.toList : Int), 0)) else (0, 150)) by simp only [digitsRes, h1, h2, h3, if_false])
    have hx : 1 < s.size → (((s[0]'h0).toNat : Int) == 48) = false := by
      intro h
      have : ¬ headNought s = true := fun hh => h3 ⟨h, hh⟩
      simp only [headNought, head_byte s h0, decide_eq_true_eq, Option.some.injEq] at this
      rw [beq_eq_false_iff_ne]
      intro hh
      exact this (UInt8.toNat_inj.mp (by simpa using (by omega : (s[0]'h0).toNat = 48)))
    clear h3
    have hl : s.data.toList.length = s.size := Array.length_toList
    by_cases h4 : 1 < s.size
    all_goals
      try have hx' := hx h4
      clear hx
      go_enter Tryd.func16, Tryd.ntmps16
      go_wp2
      go_loopw [6] (fun n wr => ∃ k : Nat, wr.heap[w.heap.size]? = some (.stringIter s k) ∧ Below w.heap.size w wr ∧ k ≤ s.size ∧ Hid ((s.data.toList.take k).all isDig = true) ∧ n = .int .i64 (digVal (s.data.toList.take k))) (fun _ wr => s.size - wr.iterPos w.heap.size)
      case atStart => exact ⟨0, iter0 w s, (Below.refl _ w).alloc (Nat.le_refl _) _, by omega, rfl, rfl⟩
      case round =>
        obtain ⟨k, hit, hb, hk, hall, rfl⟩ := hrel
        have Hps := Lib.hid (pos_of hit)
        by_cases hp : k < s.size
        · have hit2 := Lib.iterAt_heap wr w.heap.size s k (k + (Utf8.decode s k).2) hit
          have hb2 := Lib.below_iterAt hb (k := w.heap.size) (Nat.le_refl _) s (k + (Utf8.decode s k).2)
          cases hd : isDig (s[k]'hp) with
          | true =>
            have hc : 48 ≤ (s[k]'hp).toNat ∧ (s[k]'hp).toNat ≤ 57 := by simpa [isDig] using hd
            have hdec := decode_ascii s k hp (by omega)
            rw [hdec] at hit2 hb2
            have hnx : ∀ ty, (Instr.next (.pointer (some ⟨w.heap.size, 0, none⟩)) true ty).run Tryd.prog wr = _ := fun ty => Lib.run_next_ascii_at wr w.heap.size s k ty hit hp (by omega)
            have hlt := digVal_le17 (s.data.toList.take k) hall.out (by rw [List.length_take]; omega)
            have Hall := Lib.hid (show (s.data.toList.take (k + 1)).all isDig = true by rw [all_take_succ s k hp, hall.out, hd]; rfl)
            have Hv := Lib.hid (show digVal (s.data.toList.take (k + 1)) = 10 * digVal (s.data.toList.take k) + ((s[k]'hp).toNat - 48) by rw [take_snoc_b s k hp, digVal_snoc])
            have Hps2 := Lib.hid (pos_of hit2)
            have hc1 := hc.1
            have hc2 := hc.2
            generalize hcc : (s[k]'hp).toNat = c at *
            have Hcc := Lib.hid hcc
            generalize hvv : digVal (s.data.toList.take k) = v at *
            have Hvv := Lib.hid hvv
            clear hcc hvv hc hdec hd hit
            go_wp2
            go_roundw
            case rel => exact ⟨k + 1, hit2, hb2, by omega, Hall, by rw [Hv.out]; have e : ((10 * v + (c - 48) : Nat) : Int) = 10 * (v : Int) + ((c : Int) - 48) := by omega
                                                                    rw [e]⟩
            case measure =>
              rw [Hps.out, Hps2.out]
              omega
          | false =>
            have hnx : ∀ ty, (Instr.next (.pointer (some ⟨w.heap.size, 0, none⟩)) true ty).run Tryd.prog wr = _ := fun ty => Lib.run_next_any_at wr w.heap.size s k ty hit hp
            have hbad := dec_dig s k hp hd
            have Hno := Lib.hid (all_false_at s k hp hd)
            clear hd hit
            by_cases hb1 : (Utf8.decode s k).1 < 48
            · go_wp2
              go_ret2
              exact ⟨by rw [Hr.out, Hno.out]; rfl, hb2⟩
            · have hb2' : 57 < (Utf8.decode s k).1 := by omega
              clear hbad
              go_wp2
              go_ret2
              exact ⟨by rw [Hr.out, Hno.out]; rfl, hb2⟩
        · have hnx : ∀ ty, (Instr.next (.pointer (some ⟨w.heap.size, 0, none⟩)) true ty).run Tryd.prog wr = _ := fun ty => Lib.run_next_end_at wr w.heap.size s k ty hit hp
          have Hfull := Lib.hid (List.take_of_length_le (l := s.data.toList) (i := k) (by omega))
          clear hit
          by_cases hm : most < (digVal (s.data.toList.take k) : Int)
          · have Hm := Lib.hid hm
            go_wp2
            go_ret2
            refine ⟨?_, hb⟩
            have hA := hall.out
            have hM := Hm.out
            rw [Hfull.out] at hA hM
            rw [Hr.out, if_pos hA, if_pos hM]; rfl
          · have Hm := Lib.hid hm
            go_wp2
            go_ret2
            refine ⟨?_, hb⟩
            have hA := hall.out
            have hM := Hm.out
            rw [Hfull.out] at hA hM
            rw [Hr.out, if_pos hA, if_neg (by omega), Hfull.out]; rfl
end Go.Proofs.YtkekkabelnmlnaaDoor
/- Walk: Text, the UTF-8 of a list of runes through a Builder. -/
namespace Go.Proofs.YtkekkabelnmlnaaDoor
open Go Go.RowKit Go.Proofs.YtkekkabelnmlnaaDoorW.PrintWords
set_option linter.unusedVariables false

def okRunes (l : List Int) : Bool := l.all Lib.validRune
def utfBytes (l : List Int) : List UInt8 := l.flatMap fun r => (Utf8.encode r).data.toList
def textRes (l : List Int) : ByteArray × Int := if okRunes l = true then (⟨(utfBytes l).toArray⟩, 0) else (⟨#[]⟩, 150)

theorem encode_size (r : Int) : (Utf8.encode r).size ≤ 4 := by
  unfold Utf8.encode
  simp only
  repeat' split
  all_goals first | (show (1 : Nat) ≤ 4; omega) | (show (2 : Nat) ≤ 4; omega) | (show (3 : Nat) ≤ 4; omega) | (show (4 : Nat) ≤ 4; omega)

theorem utfBytes_snoc (l : List Int) (r : Int) : utfBytes (l ++ [r]) = utfBytes l ++ (Utf8.encode r).data.toList := by simp [utfBytes]
theorem utfBytes_len (l : List Int) : (utfBytes l).length ≤ 4 * l.length := by
  induction l with
  | nil => simp [utfBytes]
  | cons r l ih =>
    have h1 := encode_size r
    have h2 : (Utf8.encode r).data.toList.length = (Utf8.encode r).size := Array.length_toList
    simp only [utfBytes, List.flatMap_cons, List.length_append, List.length_cons] at *
    omega

theorem take_snoc_i (l : List Int) (k : Nat) (h : k < l.length) : l.take (k + 1) = l.take k ++ [l.getD k 0] := by
  rw [List.take_succ_eq_append_getElem h]; simp [List.getD, h]

def RetText (p : ByteArray × Int) (e : Ending) : Prop := e = .returned (.tuple #[.string p.1, .int .i64 p.2])

end Go.Proofs.YtkekkabelnmlnaaDoor
/- The hand-walked functions of the text package, in the form in which a printed caller takes a callee: a plain function f and its contract calls. -/
namespace Go.Proofs.YtkekkabelnmlnaaDoor
open Go Go.RowKit Go.Proofs.YtkekkabelnmlnaaDoorW.PrintWords
set_option linter.unusedVariables false

def strings_IndexByte.f (a0 : ByteArray) (a1 : Int) : Option Int := some (Lib.indexByte a0.data.toList a1.toNat.toUInt8)
theorem strings_IndexByte.calls (a0 : ByteArray) (a1 : Int) (r : Int) (w : World) (h : strings_IndexByte.f a0 a1 = some r) :
    Calls Tryd.prog 23 #[.string a0, .int .u8 a1] w fun e w' => e = .returned (.int .i64 r) ∧ Drawn0 w w' :=
  (Tryd.strings_IndexByte a0 a1 w).mono fun e w' ⟨h1, h2⟩ => ⟨by rw [h1]; simp only [strings_IndexByte.f, Option.some.injEq] at h; rw [h], by rw [h2]; exact Drawn0.refl _⟩

def text_Decode.f (a0 : ByteArray) : Option (Int × Int) := some (if a0.size = 0 then 0 else ((Utf8.decode a0 0).1 : Int), if a0.size = 0 then 0 else ((Utf8.decode a0 0).2 : Int))
def text_Count.f (a0 : ByteArray) : Option Int := if a0.size ≤ 9223372036854775807 then some ((rn a0).length : Int) else none
def text_Digits.f (a0 : ByteArray) (a1 : Int) : Option (Int × Int) := some (digitsRes a0 a1)
theorem text_Digits.calls (a0 : ByteArray) (a1 : Int) (r1 : Int) (r2 : Int) (w : World) (h : text_Digits.f a0 a1 = some (r1, r2)) :
    Calls Tryd.prog 16 #[.string a0, .int .i64 a1] w fun e w' => e = .returned (.tuple #[.int .i64 r1, .int .i64 r2]) ∧ Below w.heap.size w w' := by
  simp only [text_Digits.f, Option.some.injEq] at h
  refine (digits_any a0 a1 w).mono fun e w' ⟨h1, h2⟩ => ⟨?_, h2⟩
  unfold RetPair at h1
  rw [h] at h1
  exact h1

def text_Encode.f (a0 : Int) : Option (ByteArray × Int) := some (if Lib.validRune a0 = true then (Utf8.encode a0, 0) else (⟨#[]⟩, 150))
theorem text_Encode.calls (a0 : Int) (r1 : ByteArray) (r2 : Int) (w : World) (h : text_Encode.f a0 = some (r1, r2)) :
    Calls Tryd.prog 14 #[.int .i32 a0] w fun e w' => e = .returned (.tuple #[.string r1, .int .i64 r2]) ∧ Drawn0 w w' := by
  simp only [text_Encode.f, Option.some.injEq] at h
  refine (encode_any a0 w).mono fun e w' ⟨h1, h2⟩ => ⟨?_, by rw [h2]; exact Drawn0.refl _⟩
  rw [h1]
  split at h <;> (injection h with ha hb; subst ha; subst hb; simp_all)

def runeInts (s : ByteArray) : List Int := (rn s).map fun x => (x.1 : Int)
def text_Runes.f (a0 : ByteArray) : Option (List Int) := if a0.size ≤ 9223372036854775807 ∧ (rn a0).length * 4 ≤ 140737488355328 then some (runeInts a0) else none
theorem text_Runes.calls (a0 : ByteArray) (r : List Int) (w : World) (h : text_Runes.f a0 = some r) :
    Calls Tryd.prog 13 #[.string a0] w fun e w' => ∃ v0_ : Value, e = .returned (v0_) ∧ Kd.R (Kd.int .i32) 21 w' w.heap.size (fun _ => True) v0_ r ∧ Below w.heap.size w w' := by
  unfold text_Runes.f at h
  split at h
  · rename_i hs
    injection h with h
    subst h
    refine (runes_any a0 w hs.1 hs.2).mono fun e w' ⟨v, h1, h2, h3⟩ => ⟨v, h1, ?_, h3⟩
    refine Kd.R_of_own (enc := Value.int .i32) ?_ (fun _ _ => trivial)
    have e1 : encs (Value.int .i32) (runeInts a0) = runeCells (rn a0) := by simp [encs, runeInts, runeCells]
    rw [e1]
    simpa [runeInts] using h2
  · cases h

def text_Valid.f (a0 : ByteArray) : Option Bool := if a0.size ≤ 9223372036854775807 then some ((rn a0).all okRune) else none
theorem text_Valid.calls (a0 : ByteArray) (r : Bool) (w : World) (h : text_Valid.f a0 = some r) :
    Calls Tryd.prog 17 #[.string a0] w fun e w' => e = .returned (.bool r) ∧ Below w.heap.size w w' := by
  unfold text_Valid.f at h
  split at h
  · rename_i hs
    injection h with h
    subst h
    exact valid_any a0 w hs
  · cases h

def text_Text.f (l0 : List Int) : Option (ByteArray × Int) := if l0.length * 4 ≤ 140737488355328 then some (textRes l0) else none
end Go.Proofs.YtkekkabelnmlnaaDoor
/- Walks: Lower, of the program and of the document. -/
namespace Go.Proofs.YtkekkabelnmlnaaDoor
open Go Go.RowKit Go.Proofs.YtkekkabelnmlnaaDoorW.PrintWords
set_option linter.unusedVariables false
set_option linter.unusedSimpArgs false

def lowB (c : UInt8) : UInt8 := if 65 ≤ c.toNat ∧ c.toNat ≤ 90 then UInt8.ofNat (c.toNat + 32) else c
def lowS (s : ByteArray) : ByteArray := ⟨(s.data.toList.map lowB).toArray⟩
theorem low_step (l : List UInt8) (k : Nat) (h : k < l.length) : (l.take k).map lowB ++ l.drop k = ((l.take k).map lowB ++ l.drop k) ∧ ((l.take k).map lowB ++ l.drop k).set k (lowB (l.getD k 0)) = (l.take (k + 1)).map lowB ++ l.drop (k + 1) ∧ ((l.take k).map lowB ++ l.drop k).getD k 0 = l.getD k 0 := by
  have hl : ((l.take k).map lowB).length = k := by simp; omega
  refine ⟨rfl, ?_, ?_⟩
  · rw [List.set_append_right _ _ (by omega), hl, Nat.sub_self, List.drop_eq_getElem_cons h, List.set_cons_zero, List.take_succ_eq_append_getElem h, List.map_append, List.getD_eq_getElem?_getD, List.getElem?_eq_getElem h]
    simp
  · rw [List.getD_eq_getElem?_getD, List.getElem?_append_right (by omega), hl, Nat.sub_self, List.getD_eq_getElem?_getD]
    rw [List.getElem?_drop, Nat.add_zero]
theorem low_same (l : List UInt8) (k : Nat) (h : k < l.length) (hc : lowB (l.getD k 0) = l.getD k 0) : (l.take k).map lowB ++ l.drop k = (l.take (k + 1)).map lowB ++ l.drop (k + 1) := by
  obtain ⟨_, h2, h3⟩ := low_step l k h
  rw [← h2, hc, ← h3]
  rw [List.getD_eq_getElem?_getD]
  apply List.ext_getElem?
  intro i
  by_cases hi : k = i
  · subst hi
    rw [List.getElem?_set_self (by simp; omega), List.getElem?_eq_getElem (by simp; omega)]; simp
  · rw [List.getElem?_set_ne hi]

set_option maxHeartbeats 2000000 in
theorem lower_any (s : ByteArray) (w : World) (hs : s.size ≤ 9223372036854775807) :
    Calls Tryd.prog 9 #[.string s] w fun e w' => e = .returned (.string (lowS s)) ∧ Below w.heap.size w w' := by
  have kb := print_bytes (P := Tryd.prog) 9 38 5 Tryd.underlying9 Tryd.underlying38 Tryd.underlying5 s w
  have Hrow := Aside0.mk (rowB_new w s)
  have Hbel := Aside0.mk (bytes_below (Below.refl w.heap.size w) (Nat.le_refl _) 5 s)
  obtain ⟨g, hg⟩ : ∃ g, w.heap.size = g := ⟨_, rfl⟩
  have Hg := Aside0.mk hg
  rw [hg] at kb Hrow
  clear hg
  generalize Lib.bytesWorld w 5 s = W3 at kb Hrow Hbel
  have hbl : s.data.toList.length = s.size := Array.length_toList
  have Hbl := Aside0.mk hbl
  clear hbl
  go_enter Tryd.func9, Tryd.ntmps9
  go_wp2
  go_loopw [10] (fun iv wr => ∃ k : Nat, k ≤ s.size ∧ iv = .int .i64 k ∧ Aside0 (RowB g ((s.data.toList.take k).map lowB ++ s.data.toList.drop k) wr) ∧ Aside0 (Below w.heap.size w wr)) (fun iv _ => s.size - (intOf iv).toNat)
  case atStart => exact ⟨0, Nat.zero_le _, rfl, ⟨by simpa using Hrow.out⟩, Hbel⟩
  case round =>
    obtain ⟨k, hk, rfl, HRow, HBel⟩ := hrel
    by_cases hlt : k < s.size
    · have hll : k < s.data.toList.length := by rw [Hbl.out]; exact hlt
      obtain ⟨_, h2, h3⟩ := low_step s.data.toList k hll
      have hcell := HRow.out k (by simp; omega)
      rw [h3] at hcell
      have hc1 := hcell.1
      have hc2 := hcell.2
      have HS := Aside0.mk (low_same s.data.toList k hll)
      have HSet := Aside0.mk (HRow.out.set k (lowB (s.data.toList.getD k 0)))
      rw [h2] at HSet
      clear h2 h3 hcell hll
      have hcb := (s.data.toList.getD k 0).toNat_lt
      generalize hcc : s.data.toList.getD k 0 = c at *
      clear hcc
      by_cases hup : 65 ≤ c.toNat ∧ c.toNat ≤ 90
      · have hu1 : (65 : Int) ≤ (c.toNat : Int) := by omega
        have hu2 : (c.toNat : Int) ≤ 90 := by omega
        have HL := Aside0.mk (show ((lowB c).toNat : Int) = (c.toNat : Int) + 97 - 65 by unfold lowB; rw [if_pos hup, UInt8.toNat_ofNat', Nat.mod_eq_of_lt (by omega)]; omega)
        clear hup
        go_wp2
        go_roundw
        case rel => exact ⟨k + 1, by omega, by go_num, ⟨by have h := HSet.out; rw [HL.out] at h; exact h⟩, ⟨HBel.out.setCell (p := ⟨g, _, none⟩) (by rw [Hg.out]; exact Nat.le_refl _) _⟩⟩
        case measure => simp [intOf]; omega
      · have HL := Aside0.mk (HS.out (by unfold lowB; rw [if_neg hup]))
        by_cases hu1 : (65 : Int) ≤ (c.toNat : Int)
        · have hu2 : (90 : Int) < (c.toNat : Int) := by omega
          clear hup
          go_wp2
          go_roundw
          case rel => exact ⟨k + 1, by omega, by go_num, ⟨by rw [← HL.out]; exact HRow.out⟩, HBel⟩
          case measure => simp [intOf]; omega
        · have hu2 : (c.toNat : Int) < 65 := by omega
          clear hup hu1
          go_wp2
          go_roundw
          case rel => exact ⟨k + 1, by omega, by go_num, ⟨by rw [← HL.out]; exact HRow.out⟩, HBel⟩
          case measure => simp [intOf]; omega
    · obtain rfl : k = s.size := by omega
      have hfin : (s.data.toList.take s.size).map lowB ++ s.data.toList.drop s.size = s.data.toList.map lowB := by
        rw [← Hbl.out, List.take_length, List.drop_length, List.append_nil]
      have hrow := HRow.out
      rw [hfin] at hrow
      have hcv := hrow.text s.size (grownCap w s.size 0 5) (by rw [List.length_map, Hbl.out])
      clear hrow hfin
      go_wp2
      go_ret
      exact ⟨rfl, HBel.out⟩

set_option maxHeartbeats 2000000 in
theorem ref_lower_any (s : ByteArray) (w : World) (hs : s.size ≤ 9223372036854775807) :
    Calls Tryd.prog 10 #[.string s] w fun e w' => e = .returned (.string (lowS s)) ∧ Below w.heap.size w w' := by
  have kb := print_bytes (P := Tryd.prog) 9 38 5 Tryd.underlying9 Tryd.underlying38 Tryd.underlying5 s w
  have Hrow := Aside0.mk (rowB_new w s)
  have Hbel := Aside0.mk (bytes_below (Below.refl w.heap.size w) (Nat.le_refl _) 5 s)
  obtain ⟨g, hg⟩ : ∃ g, w.heap.size = g := ⟨_, rfl⟩
  have Hg := Aside0.mk hg
  rw [hg] at kb Hrow
  clear hg
  generalize Lib.bytesWorld w 5 s = W3 at kb Hrow Hbel
  have hbl : s.data.toList.length = s.size := Array.length_toList
  have Hbl := Aside0.mk hbl
  clear hbl
  go_enter Tryd.func10, Tryd.ntmps10
  go_wp2
  go_loopw [4] (fun iv wr => ∃ k : Nat, k ≤ s.size ∧ iv = .int .i64 k ∧ Aside0 (RowB g ((s.data.toList.take k).map lowB ++ s.data.toList.drop k) wr) ∧ Aside0 (Below w.heap.size w wr)) (fun iv _ => s.size - (intOf iv).toNat)
  case atStart => exact ⟨0, Nat.zero_le _, rfl, ⟨by simpa using Hrow.out⟩, Hbel⟩
  case round =>
    obtain ⟨k, hk, rfl, HRow, HBel⟩ := hrel
    by_cases hlt : k < s.size
    · have hll : k < s.data.toList.length := by rw [Hbl.out]; exact hlt
      obtain ⟨_, h2, h3⟩ := low_step s.data.toList k hll
      have hcell := HRow.out k (by simp; omega)
      rw [h3] at hcell
      have hc1 := hcell.1
      have hc2 := hcell.2
      have HS := Aside0.mk (low_same s.data.toList k hll)
      have HSet := Aside0.mk (HRow.out.set k (lowB (s.data.toList.getD k 0)))
      rw [h2] at HSet
      clear h2 h3 hcell hll
      have hcb := (s.data.toList.getD k 0).toNat_lt
      generalize hcc : s.data.toList.getD k 0 = c at *
      clear hcc
      by_cases hup : 65 ≤ c.toNat ∧ c.toNat ≤ 90
      · have hu1 : (65 : Int) ≤ (c.toNat : Int) := by omega
        have hu2 : (c.toNat : Int) ≤ 90 := by omega
        have HL := Aside0.mk (show ((lowB c).toNat : Int) = (c.toNat : Int) + 32 by unfold lowB; rw [if_pos hup, UInt8.toNat_ofNat', Nat.mod_eq_of_lt (by omega)]; omega)
        clear hup
        go_wp2
        go_roundw
        case rel => exact ⟨k + 1, by omega, by go_num, ⟨by have h := HSet.out; rw [HL.out] at h; exact h⟩, ⟨HBel.out.setCell (p := ⟨g, _, none⟩) (by rw [Hg.out]; exact Nat.le_refl _) _⟩⟩
        case measure => simp [intOf]; omega
      · have HL := Aside0.mk (HS.out (by unfold lowB; rw [if_neg hup]))
        by_cases hu1 : (65 : Int) ≤ (c.toNat : Int)
        · have hu2 : (90 : Int) < (c.toNat : Int) := by omega
          clear hup
          go_wp2
          go_roundw
          case rel => exact ⟨k + 1, by omega, by go_num, ⟨by rw [← HL.out]; exact HRow.out⟩, HBel⟩
          case measure => simp [intOf]; omega
        · have hu2 : (c.toNat : Int) < 65 := by omega
          clear hup hu1
          go_wp2
          go_roundw
          case rel => exact ⟨k + 1, by omega, by go_num, ⟨by rw [← HL.out]; exact HRow.out⟩, HBel⟩
          case measure => simp [intOf]; omega
    · obtain rfl : k = s.size := by omega
      have hfin : (s.data.toList.take s.size).map lowB ++ s.data.toList.drop s.size = s.data.toList.map lowB := by
        rw [← Hbl.out, List.take_length, List.drop_length, List.append_nil]
      have hrow := HRow.out
      rw [hfin] at hrow
      have hcv := hrow.text s.size (grownCap w s.size 0 5) (by rw [List.length_map, Hbl.out])
      clear hrow hfin
      go_wp2
      go_ret
      exact ⟨rfl, HBel.out⟩

end Go.Proofs.YtkekkabelnmlnaaDoor
/- Walks: hidden, Name, Trim; Lower and these as the print has its functions. -/
namespace Go.Proofs.YtkekkabelnmlnaaDoor
open Go Go.RowKit Go.Shelf Go.Proofs.YtkekkabelnmlnaaDoorW.PrintWords Go.Proofs.YtkekkabelnmlnaaDoorW.PrintLast
set_option linter.unusedVariables false
set_option linter.unusedSimpArgs false

def hid (r : Nat) : Bool := decide (r < 32) || (decide (127 ≤ r) && decide (r ≤ 159)) || r == 8232 || r == 8233 || r == 65279
theorem hidden_eq (r : Nat) : PA.text_hidden.f (r : Int) = some (hid r) := by
  unfold PA.text_hidden.f hid
  by_cases h1 : r < 32
  · rw [if_pos (by omega), decide_eq_true h1]; rfl
  · rw [if_neg (by omega), decide_eq_false h1]
    have e3 : ((r : Int) == 65279) = (r == 65279) := by rw [Bool.eq_iff_iff]; simp; omega
    by_cases h2 : 127 ≤ r
    · rw [if_pos (by omega), decide_eq_true h2]
      by_cases h3 : r ≤ 159
      · rw [if_pos (by omega), decide_eq_true h3]; rfl
      · rw [if_neg (by omega), decide_eq_false h3, e3]
        by_cases a : r = 8232
        · rw [if_pos (by omega), a]; rfl
        · rw [if_neg (by omega)]
          by_cases b : r = 8233
          · rw [if_pos (by omega), b]; rfl
          · rw [if_neg (by omega), beq_eq_false_iff_ne.2 a, beq_eq_false_iff_ne.2 b]; simp
    · rw [if_neg (by omega), decide_eq_false h2, e3]
      by_cases a : r = 8232
      · omega
      · rw [if_neg (by omega)]
        by_cases b : r = 8233
        · omega
        · rw [if_neg (by omega), beq_eq_false_iff_ne.2 a, beq_eq_false_iff_ne.2 b]; simp
theorem hidden_any (r : Nat) (w : World) : Calls Tryd.prog 19 #[.int .i32 (r : Int)] w fun e w' => e = .returned (.bool (hid r)) ∧ Below w.heap.size w w' := by
  refine (PA.text_hidden.calls (r : Int) (hid r) w (hidden_eq r)).mono ?_
  first
    | (rintro e w' ⟨rfl, rfl⟩; exact ⟨rfl, Below.refl _ _⟩)
    | (rintro e w' ⟨rfl, n, rfl⟩; exact ⟨rfl, pw_below_drewN (Below.refl _ _) n⟩)
    | (rintro e w' ⟨rfl, h⟩; exact ⟨rfl, h⟩)

/-- Any rune of the text that is hidden. -/
theorem idx_any (p : Nat → Bool) (s : ByteArray) : ∀ (f q : Nat), (0 ≤ Lib.idxFuncFrom p true s f q ↔ (rnFrom s f q).any (fun x => p x.1) = true)
  | 0, q => by simp [Lib.idxFuncFrom, rnFrom]
  | f + 1, q => by
    have ih := idx_any p s f (q + (Utf8.decode s q).2)
    simp only [Lib.idxFuncFrom, rnFrom]
    by_cases hq : q < s.size
    · rw [if_pos hq, if_pos hq, List.any_cons]
      by_cases hp : p (Utf8.decode s q).1 = true
      · rw [if_pos hp, hp]
        simp
      · rw [if_neg hp, ih]
        simp [hp]
    · rw [if_neg hq, if_neg hq]
      simp

/-- May a text be a name? -/
def nameB (s : ByteArray) : Bool := (rn s).all okRune && decide (1 ≤ s.size) && decide (s.size ≤ 64) && !(rn s).any (fun x => hid x.1)
theorem contains_any (s : ByteArray) (w : World) : Calls Tryd.prog 18 #[.string s, .func (.func 19) #[] #[]] w fun e w' => e = .returned (.bool ((rn s).any fun x => hid x.1)) ∧ Below w.heap.size w w' := by
  have h := Tryd.strings_ContainsFunc_grows 19 #[] (fun args w => rfl) hid s w (fun W x hx hb => by have h := hidden_any x W; exact h)
  have e : decide (0 ≤ Lib.idxFunc hid true s) = (rn s).any fun x => hid x.1 := by
    rw [Bool.eq_iff_iff, decide_eq_true_iff]
    exact idx_any hid s s.size 0
  rw [e] at h
  exact h
set_option maxHeartbeats 2000000 in
theorem name_any (s : ByteArray) (w : World) (hs : s.size ≤ 9223372036854775807) : Calls Tryd.prog 5 #[.string s] w fun e w' => e = .returned (.bool (nameB s)) ∧ Below w.heap.size w w' := by
  have HV := Aside0.mk (valid_any s w hs)
  cases hv : (rn s).all okRune with
  | true =>
    rw [hv] at HV
    by_cases h1 : 1 ≤ s.size
    · by_cases h2 : s.size ≤ 64
      · have hd1 : (1 : Int) ≤ (s.size : Int) := by omega
        have hd2 : (s.size : Int) ≤ 64 := by omega
        have HN : Aside0 (nameB s = !(rn s).any fun x => hid x.1) := ⟨by unfold nameB; rw [hv, decide_eq_true h1, decide_eq_true h2]; rfl⟩
        clear hv h1 h2
        go_enter Tryd.func5, Tryd.ntmps5
        go_wp2_with (go_at_call 17; refine HV.out.mono ?_)
        intro e w1
        first | (intro he hb; subst he) | rintro ⟨rfl, hb⟩
        have HB1 := Aside0.mk hb
        clear hb
        go_wp2_with (go_at_call 18; refine (contains_any s _).mono ?_)
        intro e w2
        first | (intro he hb; subst he) | rintro ⟨rfl, hb⟩
        have HB2 := Aside0.mk (HB1.out.trans (hb.mono HB1.out.size))
        clear hb
        go_wp2
        go_ret
        exact ⟨by rw [HN.out]; rfl, HB2.out⟩
      · have hd1 : (1 : Int) ≤ (s.size : Int) := by omega
        have hd2 : (64 : Int) < (s.size : Int) := by omega
        have HN : Aside0 (nameB s = false) := ⟨by unfold nameB; rw [hv, decide_eq_true h1, decide_eq_false h2]; rfl⟩
        clear hv h1 h2
        go_enter Tryd.func5, Tryd.ntmps5
        go_wp2_with (go_at_call 17; refine HV.out.mono ?_)
        intro e w1
        first | (intro he hb; subst he) | rintro ⟨rfl, hb⟩
        have HB1 := Aside0.mk hb
        clear hb
        go_wp2
        go_ret
        exact ⟨by rw [HN.out]; rfl, HB1.out⟩
    · have hd1 : (s.size : Int) < 1 := by omega
      have HN : Aside0 (nameB s = false) := ⟨by unfold nameB; rw [hv, decide_eq_false h1]; rfl⟩
      clear hv h1
      go_enter Tryd.func5, Tryd.ntmps5
      go_wp2_with (go_at_call 17; refine HV.out.mono ?_)
      intro e w1
      first | (intro he hb; subst he) | rintro ⟨rfl, hb⟩
      have HB1 := Aside0.mk hb
      clear hb
      go_wp2
      go_ret
      exact ⟨by rw [HN.out]; rfl, HB1.out⟩
  | false =>
    rw [hv] at HV
    have HN : Aside0 (nameB s = false) := ⟨by unfold nameB; rw [hv]; rfl⟩
    clear hv
    go_enter Tryd.func5, Tryd.ntmps5
    go_wp2_with (go_at_call 17; refine HV.out.mono ?_)
    intro e w1
    first | (intro he hb; subst he) | rintro ⟨rfl, hb⟩
    have HB1 := Aside0.mk hb
    clear hb
    go_wp2
    go_ret
    exact ⟨by rw [HN.out]; rfl, HB1.out⟩
set_option maxHeartbeats 1000000 in
theorem trim_any (s : ByteArray) (w : World) (hs : s.size ≤ 9223372036854775807) :
    Calls Tryd.prog 11 #[.string s] w fun e w' => e = .returned (.string ⟨(Lib.trimS s.data.toList [32, 9]).toArray⟩) ∧ Below w.heap.size w w' := by
  have hcon := Any.strings_Trim_laid Tryd.lays160 (by kernel_rfl) s ⟨#[32, 9]⟩ w hs (by decide) (ascii_of_all (by decide))
  change Calls Tryd.prog 27 _ _ (fun e w' => e = .returned (.string ⟨(Lib.trimS s.data.toList [32, 9]).toArray⟩) ∧ Below w.heap.size w w') at hcon
  generalize (⟨(Lib.trimS s.data.toList [32, 9]).toArray⟩ : ByteArray) = r at hcon ⊢
  go_enter Tryd.func11, Tryd.ntmps11
  go_wp2_with (go_at_call 27; refine hcon.mono ?_; rintro e w' ⟨rfl, hB⟩)
  go_ret
  exact ⟨rfl, hB⟩

/-! As the print has its functions. -/
def text_Name.f (a0 : ByteArray) : Option Bool := if a0.size ≤ 9223372036854775807 then some (nameB a0) else none
theorem text_Name.calls (a0 : ByteArray) (r : Bool) (w : World) (h : text_Name.f a0 = some r) :
    Calls Tryd.prog 5 #[.string a0] w fun e w' => e = .returned (.bool r) ∧ Below w.heap.size w w' := by
  unfold text_Name.f at h
  split at h
  · rename_i hs
    injection h with h
    subst h
    exact name_any a0 w hs
  · cases h
def text_Trim.f (a0 : ByteArray) : Option ByteArray := if a0.size ≤ 9223372036854775807 then some ⟨(Lib.trimS a0.data.toList [32, 9]).toArray⟩ else none
theorem text_Trim.calls (a0 : ByteArray) (r : ByteArray) (w : World) (h : text_Trim.f a0 = some r) :
    Calls Tryd.prog 11 #[.string a0] w fun e w' => e = .returned (.string r) ∧ Below w.heap.size w w' := by
  unfold text_Trim.f at h
  split at h
  · rename_i hs
    injection h with h
    subst h
    exact trim_any a0 w hs
  · cases h
def text_Lower.f (a0 : ByteArray) : Option ByteArray := if a0.size ≤ 9223372036854775807 then some (lowS a0) else none
theorem text_Lower.calls (a0 : ByteArray) (r : ByteArray) (w : World) (h : text_Lower.f a0 = some r) :
    Calls Tryd.prog 9 #[.string a0] w fun e w' => e = .returned (.string r) ∧ Below w.heap.size w w' := by
  unfold text_Lower.f at h
  split at h
  · rename_i hs
    injection h with h
    subst h
    exact lower_any a0 w hs
  · cases h
def atriumref15_Lower.f (a0 : ByteArray) : Option ByteArray := if a0.size ≤ 9223372036854775807 then some (lowS a0) else none
theorem atriumref15_Lower.calls (a0 : ByteArray) (r : ByteArray) (w : World) (h : atriumref15_Lower.f a0 = some r) :
    Calls Tryd.prog 10 #[.string a0] w fun e w' => e = .returned (.string r) ∧ Below w.heap.size w w' := by
  unfold atriumref15_Lower.f at h
  split at h
  · rename_i hs
    injection h with h
    subst h
    exact ref_lower_any a0 w hs
  · cases h
end Go.Proofs.YtkekkabelnmlnaaDoor
