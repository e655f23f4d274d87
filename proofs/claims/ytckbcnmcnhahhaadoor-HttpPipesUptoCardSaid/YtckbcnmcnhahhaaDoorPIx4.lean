-- Written by xprint.py, a program of this session, over the kit's print (functions walked by hand are taken as given); Lean checks it.
import Derived.Test.YtckbcnmcnhahhaaDoorPIx0
import Derived.Test.YtckbcnmcnhahhaaDoorPIx2
import Derived.Test.YtckbcnmcnhahhaaDoorPIx3
namespace Go.Proofs.YtckbcnmcnhahhaaDoor.PI
open Go.RowKit Go.Proofs.YtckbcnmcnhahhaaDoorW.PrintWords Go.Proofs.YtckbcnmcnhahhaaDoorW.PrintLast Go.Proofs.YtckbcnmcnhahhaaDoorW.PrintMore
attribute [local go_sem] max2_int min2_int max_two min_two max_three min_three max_four min_four   -- for this text's walks alone
set_option linter.unusedVariables false
set_option linter.unusedSimpArgs false

/-! ### http_head: walked by hand -/
section
open Go Go.RowKit Go.Proofs.YtckbcnmcnhahhaaDoorW.PrintWords
theorem toList_nil (s : ByteArray) : s.toList = ([] : List UInt8) ↔ s.size = 0 := by
  rw [ByteArray.toList_eq]
  constructor
  · intro h
    have : s.data.toList.length = 0 := by rw [h]; rfl
    rw [Array.length_toList] at this; exact this
  · intro h
    exact List.eq_nil_of_length_eq_zero (by rw [Array.length_toList]; exact h)

def marks : ByteArray := ⟨#[33, 35, 36, 37, 38, 39, 42, 43, 45, 46, 94, 95, 96, 124, 126]⟩
def tokC (c : UInt8) : Bool := (decide (97 ≤ c.toNat) && decide (c.toNat ≤ 122)) || (decide (65 ≤ c.toNat) && decide (c.toNat ≤ 90)) || (decide (48 ≤ c.toNat) && decide (c.toNat ≤ 57)) || marks.data.toList.contains c
def tokB (s : ByteArray) : Bool := s.data.toList.all tokC && decide (0 < s.size)
def lettB (c : UInt8) : Bool := (decide (97 ≤ c.toNat) && decide (c.toNat ≤ 122)) || (decide (65 ≤ c.toNat) && decide (c.toNat ≤ 90)) || (decide (48 ≤ c.toNat) && decide (c.toNat ≤ 57))
theorem pletter_byte (c : UInt8) : text_letter.f (c.toNat : Int) = some (lettB c) :=
  of_decide_eq_true (byte_all (fun c => decide (text_letter.f (c.toNat : Int) = some (lettB c))) (by decide +kernel) c)
theorem pmarks_byte (c : UInt8) : ∃ n : Int, strings_IndexByte.f marks (c.toNat : Int) = some n ∧ (n < 0 ↔ marks.data.toList.contains c = false) := by
  refine ⟨_, rfl, ?_⟩
  have h := byte_all (fun c => decide (Lib.indexByte marks.data.toList ((c.toNat : Int)).toNat.toUInt8 < 0) == !marks.data.toList.contains c) (by decide +kernel) c
  have h2 := eq_of_beq h
  constructor
  · intro hn
    rw [decide_eq_true hn] at h2
    simpa using h2.symm
  · intro hm
    rw [hm] at h2
    exact of_decide_eq_true h2
theorem drop_cons (s : ByteArray) (i : Nat) (h : i < s.size) : s.data.toList.drop i = (s[i]'h) :: s.data.toList.drop (i + 1) := by
  rw [List.drop_eq_getElem_cons (by rw [Array.length_toList]; exact h)]; rfl
theorem token_loop (s : ByteArray) (hs : s.size ≤ 140737488351232) (d : Nat) : ∀ i, i + d = s.size → Ev (fun k => text_Token.l0 k s (s.size : Int) (i : Int)) ((s.data.toList.drop i).all tokC && decide (0 < s.size)) := by
  induction d with
  | zero =>
    intro i hi
    refine Ev.step (fun k => by simp only [text_Token.l0]; exact rfl) (evIfNeg (by omega) ?_)
    have hl : s.data.toList.length = s.size := Array.length_toList
    rw [List.drop_of_length_le (by omega)]
    have e : (s.toList != ([] : List UInt8)) = decide (0 < s.size) := by
      by_cases hz : s.size = 0
      · rw [(toList_nil s).2 hz, hz]; rfl
      · rw [decide_eq_true (by omega), bne_iff_ne]
        exact fun h => hz ((toList_nil s).1 h)
    rw [e]
    exact Ev.now _
  | succ d ih =>
    intro i hi
    have h1 := ih (i + 1) (by omega)
    rw [drop_cons s i (by omega), List.all_cons]
    refine Ev.step (fun k => by simp only [text_Token.l0]; exact rfl) (evIfPos (by omega) (evIfPos (by omega) (evIfPos (by omega) ?_)))
    rw [bt_nat s i (by omega), wrap64_succ (by omega)]
    generalize s[i] = c at *
    have ht : tokC c = (lettB c || marks.data.toList.contains c) := rfl
    rw [ht]
    refine evBindc (pletter_byte c) ?_
    cases hb : lettB c with
    | true => exact evIfPos rfl (by simpa using h1)
    | false =>
      refine evIfNeg (by decide) ?_
      obtain ⟨n, hn, hc⟩ := pmarks_byte c
      refine evBindc hn ?_
      cases hm : marks.data.toList.contains c with
      | false => exact evIfPos (hc.2 hm) (Ev.now _)
      | true => exact evIfNeg (fun h => by rw [hc.1 h] at hm; cases hm) (by simpa using h1)
theorem token_ev (s : ByteArray) (hs : s.size ≤ 140737488351232) : Ev (fun k => text_Token.f k s) (tokB s) := token_loop s hs s.size 0 (by omega)

/-! ### A line's field -/
def nameP (s : ByteArray) : ByteArray := ⟨(Lib.cut s.data.toList [58]).1.toArray⟩
def valueP (s : ByteArray) : ByteArray := ⟨(Lib.trimS (Lib.cut s.data.toList [58]).2.1 [32, 9]).toArray⟩
def okP (s : ByteArray) : Bool := (Lib.cut s.data.toList [58]).2.2 && (tokB (nameP s) && valOk (valueP s))
theorem cut_len (s sep : List UInt8) : (Lib.cut s sep).1.length ≤ s.length ∧ (Lib.cut s sep).2.1.length ≤ s.length := by
  unfold Lib.cut
  split
  · simp only [List.length_take, List.length_drop]; omega
  · simp
theorem trim_len (l cs : List UInt8) : (Lib.trimS l cs).length ≤ l.length := by
  have h1 : ∀ (m : List UInt8), (m.dropWhile (cs.contains ·)).length ≤ m.length := fun m => (List.dropWhile_sublist _).length_le
  have h2 := h1 l.reverse
  have h3 := h1 (l.reverse.dropWhile (cs.contains ·)).reverse
  rw [List.length_reverse] at h2 h3
  exact Nat.le_trans h3 h2
theorem nameP_size (s : ByteArray) : (nameP s).size ≤ s.size := by
  have := (cut_len s.data.toList [58]).1
  rw [Array.length_toList] at this
  show (Lib.cut s.data.toList [58]).1.toArray.size ≤ _
  rw [List.size_toArray]; exact this
theorem valueP_size (s : ByteArray) : (valueP s).size ≤ s.size := by
  have := (cut_len s.data.toList [58]).2
  rw [Array.length_toList] at this
  show (Lib.trimS _ _).toArray.size ≤ _
  rw [List.size_toArray]; exact Nat.le_trans (trim_len _ _) this
theorem field_ev (s : ByteArray) (hs : s.size < 4294967281) : Ev (fun k => http_field.f k s) (nameP s, valueP s, okP s) := by
  have h1 := nameP_size s
  have h2 := valueP_size s
  have h3 := (cut_len s.data.toList [58]).2
  rw [Array.length_toList] at h3
  have hz : s.data.size = s.size := rfl
  refine evBindc (show strings_Cut.f s ⟨#[58]⟩ = some (nameP s, ⟨(Lib.cut s.data.toList [58]).2.1.toArray⟩, (Lib.cut s.data.toList [58]).2.2) by unfold strings_Cut.f; rw [if_pos hs]; rfl) ?_
  refine evBindc (show text_Trim.f ⟨(Lib.cut s.data.toList [58]).2.1.toArray⟩ = some (valueP s) by unfold text_Trim.f; rw [if_pos (by show (Lib.cut s.data.toList [58]).2.1.toArray.size ≤ _; rw [List.size_toArray]; omega)]; rfl) ?_
  unfold okP
  cases hc : (Lib.cut s.data.toList [58]).2.2 with
  | false => exact evIfNeg (show ¬ (false = true) by decide) (Ev.now _)
  | true =>
    refine evIfPos (show (true = true) from rfl) (Ev.bind (token_ev (nameP s) (by omega)) ?_)
    cases ht : tokB (nameP s) with
    | false => exact evIfNeg (by decide) (Ev.now _)
    | true =>
      refine evIfPos rfl (evBindc (show http_valueRight.f (valueP s) = some (valOk (valueP s)) by unfold http_valueRight.f; rw [if_pos (by omega)]) ?_)
      exact Ev.now _

/-! ### Fields that go together -/
def hostN : ByteArray := ⟨#[104, 111, 115, 116]⟩
def encN : ByteArray := ⟨#[116, 114, 97, 110, 115, 102, 101, 114, 45, 101, 110, 99, 111, 100, 105, 110, 103]⟩
def connN : ByteArray := ⟨#[99, 111, 110, 110, 101, 99, 116, 105, 111, 110]⟩
def closeL : List UInt8 := [99, 108, 111, 115, 101]
def rightP (l : List S50) : Bool := (sizeP l).2.2 && (decide (l.length ≤ 32) && (decide ((allP l hostN).length = 1) && decide ((allP l encN).length = 0)))
def closesP (l : List S50) : Bool := (allP l connN).any fun v => (lowS v).toList == closeL
def smallF (l : List S50) : Prop := ∀ f ∈ l, f.f0.size ≤ 9223372036854775807 ∧ f.f1.size ≤ 9223372036854775807
theorem size_f (f0 f1 f3 : ByteArray) (f4 : Bool) (l : List S50) (hl : l.length < 8796093022208) (hf : smallF l) : http_size.f f0 f1 l f3 f4 = some (sizeP l) := by
  unfold http_size.f
  rw [if_pos ⟨hl, List.all_eq_true.2 fun f h => by simp [(hf f h).1, (hf f h).2]⟩]
theorem right_ev (f0 f1 f3 : ByteArray) (f4 : Bool) (l : List S50) (hl : l.length < 8796093022208) (hf : smallF l) : Ev (fun k => http_fieldsRight.f k f0 f1 l f3 f4) (rightP l) := by
  refine evBindc (size_f f0 f1 f3 f4 l hl hf) ?_
  unfold rightP
  cases hs : (sizeP l).2.2 with
  | false => exact evIfNeg (by decide) (Ev.now _)
  | true =>
    refine evIfPos rfl ?_
    by_cases h32 : l.length ≤ 32
    · rw [decide_eq_true h32]
      refine evIfPos (by omega) (Ev.bind (all_ev f0 f1 f3 f4 l hostN (by decide) hl (fun f h => (hf f h).1)) ?_)
      by_cases h1 : (allP l hostN).length = 1
      · rw [decide_eq_true h1]
        refine evIfPos (by omega) (Ev.bind (all_ev f0 f1 f3 f4 l encN (by decide) hl (fun f h => (hf f h).1)) ?_)
        have e : decide ((allP l encN).length = 0) = (((allP l encN).length : Int) == 0) := by rw [Bool.eq_iff_iff]; simp; 
        rw [e]
        exact Ev.now _
      · rw [decide_eq_false h1]
        exact evIfNeg (by omega) (Ev.now _)
    · rw [decide_eq_false h32]
      exact evIfNeg (by omega) (Ev.now _)
theorem closes_loop (l : List ByteArray) (hl : l.length < 9223372036854775807) (hf : ∀ s ∈ l, s.size ≤ 9223372036854775807) (d : Nat) : ∀ i, i + d = l.length → Ev (fun k => http_closes.l0 k l (l.length : Int) (i : Int)) ((l.drop i).any fun v => (lowS v).toList == closeL) := by
  induction d with
  | zero =>
    intro i hi
    refine Ev.step (fun k => by simp only [http_closes.l0]; exact rfl) (evIfNeg (by omega) ?_)
    rw [List.drop_of_length_le (by omega)]
    exact Ev.now _
  | succ d ih =>
    intro i hi
    have hlt : i < l.length := by omega
    have hrd : rdOf ByteArray.empty l (i : Int) = l[i] := by
      unfold rdOf
      rw [Int.toNat_natCast, List.getD_eq_getElem?_getD, List.getElem?_eq_getElem hlt]; rfl
    refine Ev.step (fun k => by simp only [http_closes.l0]; exact rfl) (evIfPos (by omega) (evIfPos (by omega) (evIfPos (by omega) ?_)))
    rw [hrd, wrap64_succ (by omega), List.drop_eq_getElem_cons hlt, List.any_cons]
    refine evBindc (show text_Lower.f l[i] = some (lowS l[i]) by unfold text_Lower.f; rw [if_pos (hf _ (List.getElem_mem hlt))]) ?_
    by_cases h : (lowS l[i]).toList = closeL
    · rw [beq_iff_eq.2 h]
      exact evIfPos h (Ev.now _)
    · rw [beq_eq_false_iff_ne.2 h, Bool.false_or]
      exact evIfNeg h (ih (i + 1) (by omega))
theorem allP_small (l : List S50) (nm : ByteArray) (hf : smallF l) : ∀ s ∈ allP l nm, s.size ≤ 9223372036854775807 := by
  intro s hs
  unfold allP at hs
  obtain ⟨f, hf2, rfl⟩ := List.mem_map.1 hs
  exact (hf f (List.mem_filter.1 hf2).1).2
theorem closes_ev (f0 f1 f3 : ByteArray) (f4 : Bool) (l : List S50) (hl : l.length < 8796093022208) (hf : smallF l) : Ev (fun k => http_closes.f k f0 f1 l f3 f4) (closesP l) := by
  refine Ev.bind (all_ev f0 f1 f3 f4 l connN (by decide) hl (fun f h => (hf f h).1)) ?_
  exact closes_loop (allP l connN) (by have := allP_len l connN; omega) (allP_small l connN hf) (allP l connN).length 0 (by omega)

/-! ### The head -/
def splitL (s sep : ByteArray) : List ByteArray := Lib.splitB sep 0 (Lib.countB s sep) s
def verL : List UInt8 := [72, 84, 84, 80, 47, 49, 46, 49]
def fldP (s : ByteArray) : S50 := ⟨nameP s, valueP s⟩
def headZ : ByteArray × ByteArray × List S50 × ByteArray × Bool × Bool := (⟨#[]⟩, ⟨#[]⟩, [], ⟨#[]⟩, false, false)
def wordsR (W : List ByteArray) : Bool := decide (W.length = 3) && ((rdOf ByteArray.empty W 2).toList == verL && lineOk (rdOf ByteArray.empty W 0) (rdOf ByteArray.empty W 1))
def headP (s : ByteArray) : ByteArray × ByteArray × List S50 × ByteArray × Bool × Bool :=
  if wordsR (splitL (rdOf ByteArray.empty (splitL s ⟨#[13, 10]⟩) 0) ⟨#[32]⟩) = true then
    if ((splitL s ⟨#[13, 10]⟩).drop 1).all okP = true then
      if rightP (((splitL s ⟨#[13, 10]⟩).drop 1).map fldP) = true then
        (rdOf ByteArray.empty (splitL (rdOf ByteArray.empty (splitL s ⟨#[13, 10]⟩) 0) ⟨#[32]⟩) 0, rdOf ByteArray.empty (splitL (rdOf ByteArray.empty (splitL s ⟨#[13, 10]⟩) 0) ⟨#[32]⟩) 1, ((splitL s ⟨#[13, 10]⟩).drop 1).map fldP, ⟨#[]⟩, closesP (((splitL s ⟨#[13, 10]⟩).drop 1).map fldP), true)
      else headZ
    else headZ
  else headZ

def Z25 : Array Value := #[.string ⟨#[]⟩, .string ⟨#[]⟩, .slice none 0 0, .string ⟨#[]⟩, .bool false]
abbrev TReq : TypeId := 25
abbrev TFld : TypeId := 50
abbrev RFs (w : World) (base : Nat) (v : Value) (fs : List S50) : Prop := Kd.R k50 TFld w base (fun _ => True) v fs
theorem own_ty {w : World} {base : Nat} {v : Value} {fs : List S50} (h : RFs w base v fs) {g : Nat} {cs : Array Value} {T : TypeId} (hg : w.heap[g]? = some (.cells cs T (0, 0))) (hT : T ≠ TFld) : some g ≠ v.ownBlock := fun e => by
  obtain ⟨_, _, _, q, hq, cells, hc⟩ := (Kd.R_bound h).1 g e.symm
  rw [hg] at hc
  injection hc with hc
  injection hc with _ hc _
  have hq2 : q ∈ [TFld] := hq
  rw [List.mem_singleton] at hq2
  exact hT (hc.trans hq2)
theorem rfs_set {w : World} {base : Nat} {v : Value} {fs : List S50} (h : RFs w base v fs) {g : Nat} {cs : Array Value} {T : TypeId} (hg : w.heap[g]? = some (.cells cs T (0, 0))) (hT : T ≠ TFld) (j : Nat) (u : Value) : RFs (w.setCell ⟨g, j, none⟩ u) base v fs :=
  Kd.R_mono (Kd.R_far (p := ⟨g, j, none⟩) (Kd.R_bound h) (fun k hk e => by
    obtain ⟨_, _, _, q, hq, cells, hc⟩ := hk
    have e2 : k = g := e
    subst e2
    rw [hg] at hc
    injection hc with hc
    injection hc with _ hc _
    have hq2 : q ∈ [TFld] := hq
    rw [List.mem_singleton] at hq2
    exact hT (hc.trans hq2)) u) (fun _ _ => trivial)
/-- The two structs that head makes at once, the result's and the one that is told where it is not right. -/
structure Hd0 (w0 : World) (g0 : Nat) (w : World) : Prop where
  be : Below w0.heap.size w0 w
  ge : w0.heap.size ≤ g0
  z0 : w.heap[g0]? = some (.cells Z25 TReq (0, 0))
  z1 : w.heap[g0 + 1]? = some (.cells Z25 TReq (0, 0))
theorem Hd0.below {w0 w w1 : World} {g0 : Nat} (h : Hd0 w0 g0 w) (hb : Below w.heap.size w w1) : Hd0 w0 g0 w1 :=
  ⟨h.be.trans (hb.mono h.be.size), h.ge, (hb.block _ (blk_lt h.z0)).trans h.z0, (hb.block _ (blk_lt h.z1)).trans h.z1⟩
theorem h0_new (w : World) : Hd0 w w.heap.size ((w.alloc (.cells Z25 TReq)).alloc (.cells Z25 TReq)) := by
  have h1 := heap_alloc_new w (.cells Z25 TReq)
  have hs : (w.alloc (.cells Z25 TReq)).heap.size = w.heap.size + 1 := by simp
  refine ⟨((Below.refl _ _).alloc (Nat.le_refl _) _).alloc (by rw [hs]; omega) _, Nat.le_refl _, (heap_alloc_old _ _ (by rw [hs]; omega)).trans h1, ?_⟩
  have h2 := heap_alloc_new (w.alloc (.cells Z25 TReq)) (.cells Z25 TReq)
  rw [hs] at h2
  exact h2
theorem put5 {w : World} {g : Nat} {T : TypeId} {a0 a1 a2 a3 a4 : Value} (h : w.heap[g]? = some (.cells #[a0, a1, a2, a3, a4] T (0, 0))) (u0 u1 u2 u3 u4 : Value) :
    (((((w.setCell ⟨g, 0, none⟩ u0).setCell ⟨g, 1, none⟩ u1).setCell ⟨g, 2, none⟩ u2).setCell ⟨g, 3, none⟩ u3).setCell ⟨g, 4, none⟩ u4).heap[g]? = some (.cells #[u0, u1, u2, u3, u4] T (0, 0)) :=
  blk_put (blk_put (blk_put (blk_put (blk_put h 0 u0 rfl) 1 u1 rfl) 2 u2 rfl) 3 u3 rfl) 4 u4 rfl
theorem Hd0.put {w0 w : World} {g0 : Nat} (h : Hd0 w0 g0 w) (u0 u1 u2 u3 u4 : Value) :
    (((((w.setCell ⟨g0, 0, none⟩ u0).setCell ⟨g0, 1, none⟩ u1).setCell ⟨g0, 2, none⟩ u2).setCell ⟨g0, 3, none⟩ u3).setCell ⟨g0, 4, none⟩ u4).heap[g0]? = some (.cells #[u0, u1, u2, u3, u4] TReq (0, 0)) ∧
    Below w0.heap.size w0 (((((w.setCell ⟨g0, 0, none⟩ u0).setCell ⟨g0, 1, none⟩ u1).setCell ⟨g0, 2, none⟩ u2).setCell ⟨g0, 3, none⟩ u3).setCell ⟨g0, 4, none⟩ u4) :=
  ⟨put5 h.z0 u0 u1 u2 u3 u4, ((((h.be.setCell (p := ⟨g0, 0, none⟩) h.ge _).setCell (p := ⟨g0, 1, none⟩) h.ge _).setCell (p := ⟨g0, 2, none⟩) h.ge _).setCell (p := ⟨g0, 3, none⟩) h.ge _).setCell (p := ⟨g0, 4, none⟩) h.ge _⟩
theorem Hd0.cells {w0 w : World} {g0 : Nat} (h : Hd0 w0 g0 w) : (w.cell? ⟨g0 + 1, 0, none⟩ = some (.string ⟨#[]⟩) ∧ w.cell? ⟨g0 + 1, 1, none⟩ = some (.string ⟨#[]⟩) ∧ w.cell? ⟨g0 + 1, 2, none⟩ = some (.slice none 0 0) ∧ w.cell? ⟨g0 + 1, 3, none⟩ = some (.string ⟨#[]⟩) ∧ w.cell? ⟨g0 + 1, 4, none⟩ = some (.bool false)) ∧
    (w.cell? ⟨g0, 0, none⟩ = some (.string ⟨#[]⟩) ∧ w.cell? ⟨g0, 1, none⟩ = some (.string ⟨#[]⟩) ∧ w.cell? ⟨g0, 2, none⟩ = some (.slice none 0 0) ∧ w.cell? ⟨g0, 3, none⟩ = some (.string ⟨#[]⟩) ∧ w.cell? ⟨g0, 4, none⟩ = some (.bool false)) ∧
    (w.frozen? ⟨g0, 0, none⟩ = false ∧ w.frozen? ⟨g0, 1, none⟩ = false ∧ w.frozen? ⟨g0, 2, none⟩ = false ∧ w.frozen? ⟨g0, 3, none⟩ = false ∧ w.frozen? ⟨g0, 4, none⟩ = false) :=
  ⟨⟨(blk_cell h.z1 0).trans rfl, (blk_cell h.z1 1).trans rfl, (blk_cell h.z1 2).trans rfl, (blk_cell h.z1 3).trans rfl, (blk_cell h.z1 4).trans rfl⟩,
   ⟨(blk_cell h.z0 0).trans rfl, (blk_cell h.z0 1).trans rfl, (blk_cell h.z0 2).trans rfl, (blk_cell h.z0 3).trans rfl, (blk_cell h.z0 4).trans rfl⟩,
   ⟨blk_frozen h.z0 0, blk_frozen h.z0 1, blk_frozen h.z0 2, blk_frozen h.z0 3, blk_frozen h.z0 4⟩⟩
/-- The lines and the words too. -/
structure HdL (w0 : World) (g0 gl : Nat) (L : List ByteArray) (gw : Nat) (Wd : List ByteArray) (w : World) : Prop where
  h0 : Hd0 w0 g0 w
  ln : w.heap[gl]? = some (.cells (L.map Value.string).toArray 9 (0, 0))
  wd : w.heap[gw]? = some (.cells (Wd.map Value.string).toArray 9 (0, 0))
theorem HdL.below {w0 w w1 : World} {g0 gl gw : Nat} {L Wd : List ByteArray} (h : HdL w0 g0 gl L gw Wd w) (hb : Below w.heap.size w w1) : HdL w0 g0 gl L gw Wd w1 :=
  ⟨h.h0.below hb, (hb.block _ (blk_lt h.ln)).trans h.ln, (hb.block _ (blk_lt h.wd)).trans h.wd⟩
/-- The request that is made, with its fields. -/
structure HdR (w0 : World) (g0 gl : Nat) (L : List ByteArray) (gr : Nat) (a b : ByteArray) (v : Value) (fs : List S50) (w : World) : Prop where
  h0 : Hd0 w0 g0 w
  ln : w.heap[gl]? = some (.cells (L.map Value.string).toArray 9 (0, 0))
  rr : w.heap[gr]? = some (.cells #[.string a, .string b, v, .string ⟨#[]⟩, .bool false] TReq (0, 0))
  ow : RFs w w0.heap.size v fs
  ne : g0 + 1 < gr
theorem HdR.below {w0 w w1 : World} {g0 gl gr : Nat} {L : List ByteArray} {a b : ByteArray} {v : Value} {fs : List S50} (h : HdR w0 g0 gl L gr a b v fs w) (hb : Below w.heap.size w w1) : HdR w0 g0 gl L gr a b v fs w1 :=
  ⟨h.h0.below hb, (hb.block _ (blk_lt h.ln)).trans h.ln, (hb.block _ (blk_lt h.rr)).trans h.rr, Kd.R_below h.ow hb, h.ne⟩
theorem HdR.lat {w0 w : World} {g0 gl gr : Nat} {L : List ByteArray} {a b : ByteArray} {v : Value} {fs : List S50} (h : HdR w0 g0 gl L gr a b v fs w) (j : Nat) (hj : j < L.length) : w.cell? ⟨gl, j, none⟩ = some (.string L[j]) := by
  rw [blk_cell h.ln]; simp [hj]
theorem HdR.grown {w0 w w1 : World} {g0 gl gr : Nat} {L : List ByteArray} {a b : ByteArray} {v v1 : Value} {fs fs1 : List S50} (h : HdR w0 g0 gl L gr a b v fs w) (ho : RFs w1 w0.heap.size v1 fs1) (hb : Below w0.heap.size w0 w1) (hg : w.grownBy w1 v.ownBlock) : HdR w0 g0 gl L gr a b v1 fs1 (w1.setCell ⟨gr, 2, none⟩ v1) := by
  have k0 := (hg.block _ (blk_lt h.h0.z0) (own_ty h.ow h.h0.z0 (by decide))).trans h.h0.z0
  have k1 := (hg.block _ (blk_lt h.h0.z1) (own_ty h.ow h.h0.z1 (by decide))).trans h.h0.z1
  have k2 := (hg.block _ (blk_lt h.ln) (own_ty h.ow h.ln (by decide))).trans h.ln
  have k3 := (hg.block _ (blk_lt h.rr) (own_ty h.ow h.rr (by decide))).trans h.rr
  have hgl : gl ≠ gr := fun e => by
    subst e
    have := k2.symm.trans k3
    injection this with this
    injection this with _ this _
    exact absurd this (by decide)
  have hn := h.ne
  have hge := h.h0.ge
  exact ⟨⟨hb.setCell (p := ⟨gr, 2, none⟩) (by show _ ≤ gr; omega) _, hge, blk_far k0 (p := ⟨gr, 2, none⟩) (by show g0 ≠ gr; omega) _, blk_far k1 (p := ⟨gr, 2, none⟩) (by show g0 + 1 ≠ gr; omega) _⟩, blk_far k2 (p := ⟨gr, 2, none⟩) hgl _, blk_put k3 2 v1 rfl, rfs_set ho k3 (by decide) 2 v1, hn⟩
theorem infoFld : (Tryd.prog.info? 50).map (fun i => (i.zero, i.size, i.bytes)) = some (some (.agg #[(.string ⟨#[]⟩), (.string ⟨#[]⟩)]), 2, 32) := by kernel_rfl
theorem splitL_len (s sep : ByteArray) (h : 1 ≤ sep.size) : (splitL s sep).length = Lib.countB s sep + 1 := Lib.splitB_all sep h 0 _ s rfl
theorem headP_eq (s : ByteArray) (L W : List ByteArray) (hL : splitL s ⟨#[13, 10]⟩ = L) (hW : splitL (rdOf ByteArray.empty L 0) ⟨#[32]⟩ = W) : headP s =
    if wordsR W = true then if (L.drop 1).all okP = true then if rightP ((L.drop 1).map fldP) = true then (rdOf ByteArray.empty W 0, rdOf ByteArray.empty W 1, (L.drop 1).map fldP, ⟨#[]⟩, closesP ((L.drop 1).map fldP), true) else headZ else headZ else headZ := by
  subst hL; subst hW; rfl
/-- A piece of a text is no longer than the text. -/
theorem split_small (sep : ByteArray) (v : Nat) : ∀ (k : Nat) (s : ByteArray), ∀ x ∈ Lib.splitB sep v k s, x.size ≤ s.size + v
  | 0, s, x, h => by
    rw [Lib.splitB_zero, List.mem_singleton] at h
    subst h; omega
  | k + 1, s, x, h => by
    unfold Lib.splitB at h
    split at h
    · rw [List.mem_singleton] at h; subst h; omega
    · rcases List.mem_cons.1 h with rfl | h
      · rw [ByteArray.size_extract]; omega
      · have := split_small sep v k _ x h
        rw [ByteArray.size_extract] at this
        omega
theorem splitL_small (s sep x : ByteArray) (h : x ∈ splitL s sep) : x.size ≤ s.size := split_small sep 0 _ s x h
set_option maxHeartbeats 8000000 in
set_option maxRecDepth 100000 in
theorem head_any (s : ByteArray) (w : World) (hs : s.size ≤ 1048576) (hm_ : MX w) :
    Calls Tryd.prog 22 #[.string s] w fun e w' => ∃ v2_ : Value, e = .returned (.tuple #[.agg #[.string (headP s).1, .string (headP s).2.1, v2_, .string (headP s).2.2.2.1, .bool (headP s).2.2.2.2.1], .bool (headP s).2.2.2.2.2]) ∧ Kd.R k50 50 w' w.heap.size (fun _ => True) v2_ (headP s).2.2.1 ∧ Below w.heap.size w w' := by
  have hu := Tryd.underlying25
  have hu2 := Tryd.underlying50
  have HZ := Aside0.mk (h0_new w)
  obtain ⟨wa, hwa⟩ : ∃ wa, (w.alloc (.cells Z25 TReq)).alloc (.cells Z25 TReq) = wa := ⟨_, rfl⟩
  rw [hwa] at HZ
  have HWa := Aside0.mk hwa
  clear hwa
  have Hs := Aside0.mk hs
  have HM := Aside0.mk hm_
  clear hs hm_
  obtain ⟨L, hL⟩ : ∃ L, splitL s ⟨#[13, 10]⟩ = L := ⟨_, rfl⟩
  have hLn := splitL_len s ⟨#[13, 10]⟩ (by decide)
  obtain ⟨ma, hma⟩ := mxk HM.out HZ.out.be
  have hsp := Tryd.strings_Split s ⟨#[13, 10]⟩ ma wa (by have := Hs.out; omega) hma (by decide)
  rw [show Lib.splitB ⟨#[13, 10]⟩ 0 (Lib.countB s ⟨#[13, 10]⟩) s = L from hL] at hsp
  rw [hL] at hLn
  rw [← hLn] at hsp
  have HSp := Aside0.mk hsp
  have HLs := Aside0.mk (show ∀ x ∈ L, x.size ≤ 1048576 from fun x hx => Nat.le_trans (splitL_small s ⟨#[13, 10]⟩ x (by rw [hL]; exact hx)) Hs.out)
  clear hsp hma
  match L, hL, hLn, HSp, HLs with
  | [], hL, hLn, HSp, HLs => exact absurd hLn (by simp)
  | L0 :: R, hL, hLn, HSp, HLs =>
    obtain ⟨Wd, hW⟩ : ∃ Wd, splitL (rdOf ByteArray.empty (L0 :: R) 0) ⟨#[32]⟩ = Wd := ⟨_, rfl⟩
    have hWn := splitL_len L0 ⟨#[32]⟩ (by decide)
    have HP := Aside0.mk (headP_eq s (L0 :: R) Wd hL hW)
    have hW2 : splitL L0 ⟨#[32]⟩ = Wd := hW
    obtain ⟨w1, hw1⟩ : ∃ w1, wa.alloc (.cells ((L0 :: R).map Value.string).toArray 9) = w1 := ⟨_, rfl⟩
    have hb1 : Below wa.heap.size wa w1 := by rw [← hw1]; exact (Below.refl _ _).alloc (Nat.le_refl _) _
    have hln1 : w1.heap[wa.heap.size]? = some (.cells ((L0 :: R).map Value.string).toArray 9 (0, 0)) := by rw [← hw1]; exact heap_alloc_new wa _
    have hz1 := HZ.out.below hb1
    have hgl : w.heap.size + 1 < wa.heap.size := blk_lt HZ.out.z1
    have Hgl := Aside0.mk hgl
    generalize wa.heap.size = gl at *
    obtain ⟨mb, hmb⟩ := mxk HM.out hz1.be
    have hl0 := HLs.out L0 (by simp)
    have hsq := Tryd.strings_Split L0 ⟨#[32]⟩ mb w1 (by omega) hmb (by decide)
    rw [show Lib.splitB ⟨#[32]⟩ 0 (Lib.countB L0 ⟨#[32]⟩) L0 = Wd from hW2] at hsq
    rw [hW2] at hWn
    rw [← hWn] at hsq
    have HSq := Aside0.mk hsq
    have HWs := Aside0.mk (show ∀ x ∈ Wd, x.size ≤ 1048576 from fun x hx => Nat.le_trans (splitL_small L0 ⟨#[32]⟩ x (by rw [hW2]; exact hx)) hl0)
    obtain ⟨w2, hw2⟩ : ∃ w2, w1.alloc (.cells (Wd.map Value.string).toArray 9) = w2 := ⟨_, rfl⟩
    have hb2 : Below w1.heap.size w1 w2 := by rw [← hw2]; exact (Below.refl _ _).alloc (Nat.le_refl _) _
    have HL2 := Aside0.mk (show HdL w w.heap.size gl (L0 :: R) w1.heap.size Wd w2 from ⟨hz1.below hb2, (hb2.block _ (blk_lt hln1)).trans hln1, by rw [← hw2]; exact heap_alloc_new w1 _⟩)
    have hc0 : w1.cell? ⟨gl, 0, none⟩ = some (.string L0) := (blk_cell hln1 0).trans (by simp)
    have Hw1 := Aside0.mk hw1
    have Hw2 := Aside0.mk hw2
    have hn0 : (0 : Int) < (((L0 :: R).length : Nat) : Int) := by rw [List.length_cons]; omega
    have hnl : (L0 :: R).length ≤ 1048577 := by rw [hLn]; have := Lib.countB_le ⟨#[13, 10]⟩ (by decide) s.size s (Nat.le_refl _); have := Hs.out; omega
    have hwl : Wd.length ≤ 1048577 := by rw [hWn]; have := Lib.countB_le ⟨#[32]⟩ (by decide) L0.size L0 (Nat.le_refl _); omega
    generalize w1.heap.size = gw at *
    have Hn := Aside0.mk (show (L0 :: R).length = R.length + 1 from rfl)
    clear hL hLn hW hWn hW2 hw1 hw2 hb1 hb2 hln1 hz1 hmb hsq hl0
    go_enter Tryd.func22, Tryd.ntmps22
    go_wp2_with fail
    rw [show (w.alloc (.cells #[.string ⟨#[]⟩, .string ⟨#[]⟩, .slice none 0 0, .string ⟨#[]⟩, .bool false] 25)).alloc (.cells #[.string ⟨#[]⟩, .string ⟨#[]⟩, .slice none 0 0, .string ⟨#[]⟩, .bool false] 25) = wa from HWa.out]
    refine HSp.out.mono ?_
    rintro e wx ⟨rfl, rfl⟩
    rw [Hw1.out]
    generalize (L0 :: R).length = n at *
    go_wp2_with fail
    refine HSq.out.mono ?_
    rintro e wx ⟨rfl, rfl⟩
    rw [Hw2.out]
    clear HSp HSq Hw1 Hw2 HWa HZ hc0
    have Hnl := Aside0.mk hnl
    have HC0 := Aside0.mk (show w2.cell? ⟨w.heap.size + 1, 0, none⟩ = some (.string ⟨#[]⟩) from (blk_cell HL2.out.h0.z1 0).trans rfl)
    by_cases h3 : Wd.length = 3
    · obtain ⟨a, b, c, hWd⟩ : ∃ a b c, Wd = [a, b, c] := by
        match Wd, h3 with
        | [a, b, c], _ => exact ⟨a, b, c, rfl⟩
      clear hwl
      generalize Wd.length = m at h3 ⊢
      subst h3
      subst hWd
      have wa0 := (blk_cell HL2.out.wd 0).trans (show (([a, b, c] : List ByteArray).map Value.string).toArray[0]? = some (.string a) from rfl)
      have wa1 := (blk_cell HL2.out.wd 1).trans (show (([a, b, c] : List ByteArray).map Value.string).toArray[1]? = some (.string b) from rfl)
      have wa2 := (blk_cell HL2.out.wd 2).trans (show (([a, b, c] : List ByteArray).map Value.string).toArray[2]? = some (.string c) from rfl)
      obtain ⟨⟨z0, z1, z2, z3, z4⟩, ⟨y0, y1, y2, y3, y4⟩, ⟨f0, f1, f2, f3, f4⟩⟩ := HL2.out.h0.cells
      have hWR : wordsR [a, b, c] = (c.toList == verL && lineOk a b) := rfl
      by_cases hv : c.toList = verL
      · have e1 : (c.toList == ([72, 84, 84, 80, 47, 49, 46, 49] : List UInt8)) = true := beq_iff_eq.2 hv
        have e2 : (c.toList != ([72, 84, 84, 80, 47, 49, 46, 49] : List UInt8)) = false := by rw [bne, e1]; rfl
        have HLn := Aside0.mk (fun wx => line_any a b wx (Nat.le_trans (HWs.out a (by simp)) (by decide)) (Nat.le_trans (HWs.out b (by simp)) (by decide)))
        rw [beq_iff_eq.2 hv, Bool.true_and] at hWR
        have HWR := Aside0.mk hWR
        clear hv hWR
        generalize lineOk a b = lk at *
        go_upto_region 4 with fail
        go_region_held3 (fun w' => w'.cell? ⟨gw, 0, none⟩ = some (.string a) ∧ w'.cell? ⟨gw, 1, none⟩ = some (.string b) ∧ w'.cell? ⟨gw, 2, none⟩ = some (.string c)) (first | exact ⟨(blk_cell HL3.out.wd 0).trans rfl, (blk_cell HL3.out.wd 1).trans rfl, (blk_cell HL3.out.wd 2).trans rfl⟩ | exact ⟨wa0, wa1, wa2⟩ | go_keep) ((go_at_call 30; refine (HLn.out _).mono ?_; rintro e wx ⟨rfl, hb⟩; have HL3 := Aside0.mk ((HL2.out.below (below_drew1 (Below.refl _ _))).below hb); clear hb))
        cases lk with
        | false =>
          have HPz := Aside0.mk (show headP s = headZ by rw [HP.out, if_neg (by rw [HWR.out]; exact Bool.false_ne_true)])
          clear z0 z1 z2 z3 z4 y0 y1 y2 y3 y4 f0 f1 f2 f3 f4 wa0 wa1 wa2
          obtain ⟨⟨z0, z1, z2, z3, z4⟩, ⟨y0, y1, y2, y3, y4⟩, ⟨f0, f1, f2, f3, f4⟩⟩ := HL3.out.h0.cells
          go_wp2
          refine bodyPost_ret (results_ct rfl _ _ w.heap.size TReq #[.string ⟨#[]⟩, .string ⟨#[]⟩, .slice none 0 0, .string ⟨#[]⟩, .bool false] (0, 0) _ rfl (HL3.out.h0.put _ _ _ _ _).1 hu rfl (by kernel_rfl)) rfl ?_
          exact ⟨_, by rw [HPz.out]; rfl, by rw [HPz.out]; exact Kd.R_nil _ _ _ _ _, (HL3.out.h0.put _ _ _ _ _).2⟩
        | true =>
          clear z0 z1 z2 z3 z4 y0 y1 y2 y3 y4 f0 f1 f2 f3 f4 wa0 wa1 wa2
          have wa0 := (blk_cell HL3.out.wd 0).trans (show (([a, b, c] : List ByteArray).map Value.string).toArray[0]? = some (.string a) from rfl)
          have wa1 := (blk_cell HL3.out.wd 1).trans (show (([a, b, c] : List ByteArray).map Value.string).toArray[1]? = some (.string b) from rfl)
          go_upto_region 6 with fail
          have q0 := World.new_ne _ _ wa0
          have q1 := World.new_ne _ _ wa1
          go_region_held3 (fun w' => w'.cell? ⟨gw, 0, none⟩ = some (.string a) ∧ w'.cell? ⟨gw, 1, none⟩ = some (.string b)) (first | exact ⟨wa0, wa1⟩ | go_keep) (fail)
          have hgr : w.heap.size + 1 < wx.heap.size := blk_lt HL3.out.h0.z1
          have hbx : Below wx.heap.size wx ((wx.alloc (.cells #[.string a, .string b, .slice none 0 0, .string ⟨#[]⟩, .bool false] 25)).drew) := below_drew1 ((Below.refl _ _).alloc (Nat.le_refl _) _)
          have HR3 := Aside0.mk (show HdR w w.heap.size gl (L0 :: R) wx.heap.size a b (.slice none 0 0) [] ((wx.alloc (.cells #[.string a, .string b, .slice none 0 0, .string ⟨#[]⟩, .bool false] 25)).drew) from
            ⟨HL3.out.h0.below hbx, (hbx.block _ (blk_lt HL3.out.ln)).trans HL3.out.ln, heap_alloc_new wx _, Kd.R_nil _ _ _ _ _, hgr⟩)
          clear hbx hgr wa0 wa1 q0 q1 HL3 HL2
          generalize (wx.alloc (.cells #[.string a, .string b, .slice none 0 0, .string ⟨#[]⟩, .bool false] 25)).drew = wy at *
          generalize wx.heap.size = gr at *
          have HP2 := Aside0.mk (show headP s = if R.all okP = true then if rightP (R.map fldP) = true then (a, b, R.map fldP, ⟨#[]⟩, closesP (R.map fldP), true) else headZ else headZ by rw [HP.out, if_pos HWR.out]; rfl)
          clear HP HWR
          match R, HP2, Hn, HLs, HR3 with
          | [], HP2, Hn, HLs, HR3 =>
            obtain rfl : n = 1 := Hn.out
            have hrp : rightP [] = false := by rfl
            have HPz := Aside0.mk (show headP s = headZ by rw [HP2.out, List.map_nil, hrp]; rfl)
            obtain ⟨K1, hK1⟩ := (right_ev a b ⟨#[]⟩ false [] (by decide) (fun f hf => absurd hf (by simp))).rounds
            rw [hrp] at hK1
            have HK1 := Aside0.mk hK1
            clear hrp hK1 HP2
            go_wp2
            obtain ⟨wo, rfl⟩ : ∃ wo : World, wo = wy := ⟨_, rfl⟩
            go_loopw [49] (fun iv wr => iv = .int .i64 0 ∧ Aside0 (HdR w w.heap.size gl [L0] gr a b (.slice none 0 0) [] wr)) (fun _ _ => 0)
            case atStart => exact ⟨rfl, HR3⟩
            case round =>
              clear HR3
              obtain ⟨rfl, HR3⟩ := hrel
              obtain ⟨ad, cap, hvv, hcap, hrd⟩ := Kd.R_reads HR3.out.ow
              injection hvv with hv1 hv2 hv3
              subst hv1
              subst hv3
              clear hv2
              have HC := Aside0.mk (And.intro hcap hrd)
              clear hcap hrd
              have c0 : wr.cell? ⟨gr, 0, none⟩ = some (.string a) := (blk_cell HR3.out.rr 0).trans rfl
              have c1 : wr.cell? ⟨gr, 1, none⟩ = some (.string b) := (blk_cell HR3.out.rr 1).trans rfl
              have c2 : wr.cell? ⟨gr, 2, none⟩ = some (.slice none 0 0) := (blk_cell HR3.out.rr 2).trans rfl
              have c3 : wr.cell? ⟨gr, 3, none⟩ = some (.string ⟨#[]⟩) := (blk_cell HR3.out.rr 3).trans rfl
              have c4 : wr.cell? ⟨gr, 4, none⟩ = some (.bool false) := (blk_cell HR3.out.rr 4).trans rfl
              go_wp2_with fail
              refine (http_fieldsRight.calls K1 a b none 0 [] ⟨#[]⟩ false false _ HC.out.2 HC.out.1 HK1.out).mono ?_
              rintro e w7 ⟨rfl, hb⟩
              have HR7 := Aside0.mk (HR3.out.below hb)
              clear hb HR3 HC c0 c1 c2 c3 c4
              obtain ⟨⟨z0, z1, z2, z3, z4⟩, ⟨y0, y1, y2, y3, y4⟩, ⟨f0, f1, f2, f3, f4⟩⟩ := HR7.out.h0.cells
              go_wp2
              refine bodyPost_ret (results_ct rfl _ _ w.heap.size TReq #[.string ⟨#[]⟩, .string ⟨#[]⟩, .slice none 0 0, .string ⟨#[]⟩, .bool false] (0, 0) _ rfl (HR7.out.h0.put _ _ _ _ _).1 hu rfl (by kernel_rfl)) rfl ?_
              exact ⟨_, by rw [HPz.out]; rfl, by rw [HPz.out]; exact Kd.R_nil _ _ _ _ _, (HR7.out.h0.put _ _ _ _ _).2⟩
          | R0 :: Rt, HP2, Hn, HLs, HR3 =>
            have hr1 : 1 ≤ (R0 :: Rt).length := by rw [List.length_cons]; omega
            have hL1 := Hn.out
            generalize R0 :: Rt = Q at *
            obtain ⟨r, hr⟩ : ∃ r, Q.length = r := ⟨_, rfl⟩
            rw [hr] at hL1 hr1
            subst hL1
            have HQ := Aside0.mk hr
            have hr0 : ¬ r = 0 := by omega
            have hrb : r ≤ 1048577 := by omega
            clear hr
            go_wp2
            obtain ⟨wo, rfl⟩ : ∃ wo : World, wo = wy := ⟨_, rfl⟩
            go_loopw [49] (fun iv wr => ∃ (k : Nat) (v : Value) (fs : List S50), k ≤ r ∧ iv = .int .i64 k ∧ Aside0 ((Q.take k).all okP = true ∧ fs = (Q.take k).map fldP) ∧ Aside0 (HdR w w.heap.size gl (L0 :: Q) gr a b v fs wr)) (fun iv _ => r - (intOf iv).toNat)
            case atStart => exact ⟨0, _, [], Nat.zero_le _, rfl, ⟨rfl, rfl⟩, HR3⟩
            case round =>
              clear HR3
              obtain ⟨k, v, fs, hk, rfl, Hok, HR3⟩ := hrel
              by_cases hlt : k < r
              · have hkq : k < Q.length := by rw [HQ.out]; exact hlt
                have hcl := HR3.out.lat (1 + k) (by rw [List.length_cons]; omega)
                rw [show (L0 :: Q)[1 + k]'(by rw [List.length_cons]; omega) = Q[k] by simp [Nat.add_comm 1 k]] at hcl
                have hqs : Q[k].size ≤ 1048576 := HLs.out _ (List.mem_cons_of_mem _ (List.getElem_mem hkq))
                have htk : Q.take (k + 1) = Q.take k ++ [Q[k]] := List.take_succ_eq_append_getElem hkq
                obtain ⟨K, hK⟩ := (field_ev Q[k] (by omega)).rounds
                have hbad : okP Q[k] = false → Q.all okP = false := fun h => List.all_eq_false.2 ⟨Q[k], List.getElem_mem hkq, by rw [h]; exact Bool.false_ne_true⟩
                have hmx := mxk HM.out HR3.out.h0.be
                generalize Q[k] = q at *
                have HK := Aside0.mk hK
                have Htk := Aside0.mk htk
                have Hbad := Aside0.mk hbad
                have Hmx := Aside0.mk hmx
                clear hK htk hbad hmx hqs hkq
                go_wp2_with fail
                refine (http_field.calls K q (nameP q) (valueP q) (okP q) _ HK.out Hmx.out).mono ?_
                rintro e w4 ⟨rfl, hb⟩
                have HR4 := Aside0.mk (HR3.out.below hb)
                clear hb hcl
                generalize hok : okP q = okq at *
                cases okq with
                | false =>
                  have HPz := Aside0.mk (show headP s = headZ by rw [HP2.out, if_neg (by rw [Hbad.out rfl]; exact Bool.false_ne_true)])
                  have hbx : Below w4.heap.size w4 (w4.alloc (.cells #[.string (nameP q), .string (valueP q)] 50)) := (Below.refl _ _).alloc (Nat.le_refl _) _
                  have HR5 := Aside0.mk (HR4.out.below hbx)
                  clear hbx HR4 HR3
                  generalize hw5 : w4.alloc (.cells #[.string (nameP q), .string (valueP q)] 50) = w5 at *
                  have Hw5 := Aside0.mk hw5
                  clear hw5
                  obtain ⟨⟨z0, z1, z2, z3, z4⟩, ⟨y0, y1, y2, y3, y4⟩, ⟨f0, f1, f2, f3, f4⟩⟩ := HR5.out.h0.cells
                  go_upto_region 11 with fail
                  rw [Hw5.out]
                  go_wp2
                  refine bodyPost_ret (results_ct rfl _ _ w.heap.size TReq #[.string ⟨#[]⟩, .string ⟨#[]⟩, .slice none 0 0, .string ⟨#[]⟩, .bool false] (0, 0) _ rfl (HR5.out.h0.put _ _ _ _ _).1 hu rfl (by kernel_rfl)) rfl ?_
                  exact ⟨_, by rw [HPz.out]; rfl, by rw [HPz.out]; exact Kd.R_nil _ _ _ _ _, (HR5.out.h0.put _ _ _ _ _).2⟩
                | true =>
                  have Hok2 := Aside0.mk (show (Q.take (k + 1)).all okP = true ∧ fs ++ [fldP q] = (Q.take (k + 1)).map fldP from ⟨by rw [Htk.out, List.all_append, Hok.out.1]; simp [hok], by rw [Htk.out, List.map_append, ← Hok.out.2]; rfl⟩)
                  have hbx : Below w4.heap.size w4 (w4.alloc (.cells #[.string (nameP q), .string (valueP q)] 50)) := (Below.refl _ _).alloc (Nat.le_refl _) _
                  have HR5 := Aside0.mk (HR4.out.below hbx)
                  have hg5 := heap_alloc_new w4 (.cells #[.string (nameP q), .string (valueP q)] 50)
                  have hlen : (fs.length + 1) * 32 ≤ 140737488355328 := by rw [Hok.out.2, List.length_map, List.length_take]; omega
                  have Hlen := Aside0.mk hlen
                  clear hbx HR4 HR3 hok hlen
                  generalize hw5 : w4.alloc (.cells #[.string (nameP q), .string (valueP q)] 50) = w5 at *
                  have Hw5 := Aside0.mk hw5
                  obtain ⟨gf, hgf⟩ : ∃ gf, w4.heap.size = gf := ⟨_, rfl⟩
                  rw [hgf] at hg5
                  have Hgf := Aside0.mk hgf
                  clear hw5 hgf
                  have d0 : w5.cell? ⟨gf, 0, none⟩ = some (.string (nameP q)) := (blk_cell hg5 0).trans rfl
                  have d1 : w5.cell? ⟨gf, 1, none⟩ = some (.string (valueP q)) := (blk_cell hg5 1).trans rfl
                  have r2 : w5.cell? ⟨gr, 2, none⟩ = some v := (blk_cell HR5.out.rr 2).trans rfl
                  clear hg5
                  go_upto_region 11 with fail
                  rw [Hw5.out, Hgf.out]
                  go_wp2_with ((with_reducible refine gate_builtin (b := .append) (xs := #[.tmp 62, .tmp 64]) rfl ?_); at_builtin; refine Kd.R_append k50 (w0 := w) w.heap.size rfl (.tmp 62) (.tmp 64) 23 50 (.agg #[(.string ⟨#[]⟩), (.string ⟨#[]⟩)]) 32 rfl Tryd.underlying23 infoFld rfl (by decide) (by decide) v fs (fldP q) [.string (nameP q), .string (valueP q)] (fun _ => True) (fun _ => False) rfl rfl (k50_mkM _ _ _ (fldP q)) (fun _ hk => hk.elim) (fun _ _ => trivial) HR5.out.ow HR5.out.h0.be HR5.out.h0.be.size Hlen.out ?_)
                  intro v1 w6 ho hb hg hat
                  have k3 := (hg.block _ (blk_lt HR5.out.rr) (own_ty HR5.out.ow HR5.out.rr (by decide))).trans HR5.out.rr
                  have HR6 := Aside0.mk (HR5.out.grown ho hb hg)
                  have r3 : w6.cell? ⟨gr, 2, none⟩ = some v := (blk_cell k3 2).trans rfl
                  have r4 := blk_frozen k3 2
                  obtain ⟨ad1, cap1, rfl, _, _⟩ := Kd.R_reads ho
                  generalize (fs ++ [fldP q]).length = n1 at *
                  clear ho hb hg hat k3 HR5 d0 d1 r2 Hlen
                  go_wp2
                  go_roundw
                  case rel => exact ⟨k + 1, _, _, by omega, by go_num, Hok2, HR6⟩
                  case measure => simp [intOf]; omega
              · obtain rfl : k = r := by omega
                have htk : Q.take k = Q := List.take_of_length_le (by rw [HQ.out]; omega)
                rw [htk] at Hok
                have hall := Hok.out.1
                have hfse := Hok.out.2
                have hfl : fs.length < 8796093022208 := by rw [hfse, List.length_map, HQ.out]; omega
                have hfsm : smallF fs := by
                  rw [hfse]
                  intro f hf
                  obtain ⟨x, hx, rfl⟩ := List.mem_map.1 hf
                  have hx2 := HLs.out x (List.mem_cons_of_mem _ hx)
                  exact ⟨Nat.le_trans (nameP_size x) (by omega), Nat.le_trans (valueP_size x) (by omega)⟩
                have HP3 := Aside0.mk (show headP s = if rightP fs = true then (a, b, fs, ⟨#[]⟩, closesP fs, true) else headZ by rw [HP2.out, if_pos hall, ← hfse])
                obtain ⟨K1, hK1⟩ := (right_ev a b ⟨#[]⟩ false fs hfl hfsm).rounds
                obtain ⟨K2, hK2⟩ := (closes_ev a b ⟨#[]⟩ false fs hfl hfsm).rounds
                obtain ⟨ad, cap, hvv, hcap, hrd⟩ := Kd.R_reads HR3.out.ow
                have HK1 := Aside0.mk hK1
                have HK2 := Aside0.mk hK2
                clear hK1 hK2 hfl hfsm hall hfse Hok htk HP2 HQ
                subst hvv
                have c0 : wr.cell? ⟨gr, 0, none⟩ = some (.string a) := (blk_cell HR3.out.rr 0).trans rfl
                have c1 : wr.cell? ⟨gr, 1, none⟩ = some (.string b) := (blk_cell HR3.out.rr 1).trans rfl
                have c2 : wr.cell? ⟨gr, 2, none⟩ = some (.slice ad fs.length cap) := (blk_cell HR3.out.rr 2).trans rfl
                have c3 : wr.cell? ⟨gr, 3, none⟩ = some (.string ⟨#[]⟩) := (blk_cell HR3.out.rr 3).trans rfl
                have c4 : wr.cell? ⟨gr, 4, none⟩ = some (.bool false) := (blk_cell HR3.out.rr 4).trans rfl
                have HC := Aside0.mk (And.intro hcap hrd)
                clear hcap hrd
                go_wp2_with fail
                refine (http_fieldsRight.calls K1 a b ad cap fs ⟨#[]⟩ false (rightP fs) _ HC.out.2 HC.out.1 HK1.out).mono ?_
                rintro e w7 ⟨rfl, hb⟩
                have HR7 := Aside0.mk (HR3.out.below hb)
                have HC7 := Aside0.mk (And.intro HC.out.1 (Kd.C_below HC.out.2 hb))
                clear hb HR3 HC c0 c1 c2 c3 c4
                generalize hrp : rightP fs = rp at *
                cases rp with
                | false =>
                  have HPz := Aside0.mk (show headP s = headZ by rw [HP3.out, if_neg Bool.false_ne_true])
                  obtain ⟨⟨z0, z1, z2, z3, z4⟩, ⟨y0, y1, y2, y3, y4⟩, ⟨f0, f1, f2, f3, f4⟩⟩ := HR7.out.h0.cells
                  go_wp2
                  refine bodyPost_ret (results_ct rfl _ _ w.heap.size TReq #[.string ⟨#[]⟩, .string ⟨#[]⟩, .slice none 0 0, .string ⟨#[]⟩, .bool false] (0, 0) _ rfl (HR7.out.h0.put _ _ _ _ _).1 hu rfl (by kernel_rfl)) rfl ?_
                  exact ⟨_, by rw [HPz.out]; rfl, by rw [HPz.out]; exact Kd.R_nil _ _ _ _ _, (HR7.out.h0.put _ _ _ _ _).2⟩
                | true =>
                  have HPy := Aside0.mk (show headP s = (a, b, fs, ⟨#[]⟩, closesP fs, true) by rw [HP3.out, if_pos rfl])
                  have c0 : w7.cell? ⟨gr, 0, none⟩ = some (.string a) := (blk_cell HR7.out.rr 0).trans rfl
                  have c1 : w7.cell? ⟨gr, 1, none⟩ = some (.string b) := (blk_cell HR7.out.rr 1).trans rfl
                  have c2 : w7.cell? ⟨gr, 2, none⟩ = some (.slice ad fs.length cap) := (blk_cell HR7.out.rr 2).trans rfl
                  have c3 : w7.cell? ⟨gr, 3, none⟩ = some (.string ⟨#[]⟩) := (blk_cell HR7.out.rr 3).trans rfl
                  have c4 : w7.cell? ⟨gr, 4, none⟩ = some (.bool false) := (blk_cell HR7.out.rr 4).trans rfl
                  go_wp2_with fail
                  refine (http_closes.calls K2 a b ad cap fs ⟨#[]⟩ false (closesP fs) _ HC7.out.2 HC7.out.1 HK2.out).mono ?_
                  rintro e w8 ⟨rfl, hb⟩
                  have HR8 := Aside0.mk (HR7.out.below hb)
                  clear hb HR7 HC7 c0 c1 c2 c3 c4
                  obtain ⟨⟨z0, z1, z2, z3, z4⟩, ⟨y0, y1, y2, y3, y4⟩, ⟨f0, f1, f2, f3, f4⟩⟩ := HR8.out.h0.cells
                  have c0 : w8.cell? ⟨gr, 0, none⟩ = some (.string a) := (blk_cell HR8.out.rr 0).trans rfl
                  have c1 : w8.cell? ⟨gr, 1, none⟩ = some (.string b) := (blk_cell HR8.out.rr 1).trans rfl
                  have c2 : w8.cell? ⟨gr, 2, none⟩ = some (.slice ad fs.length cap) := (blk_cell HR8.out.rr 2).trans rfl
                  have c3 : w8.cell? ⟨gr, 3, none⟩ = some (.string ⟨#[]⟩) := (blk_cell HR8.out.rr 3).trans rfl
                  have c4 : w8.cell? ⟨gr, 4, none⟩ = some (.bool false) := (blk_cell HR8.out.rr 4).trans rfl
                  have g4 : w8.frozen? ⟨gr, 4, none⟩ = false := blk_frozen HR8.out.rr 4
                  generalize closesP fs = cl at *
                  go_upto_region 18 with fail
                  have hn8 := HR8.out.ne
                  have h9 : Hd0 w w.heap.size (w8.setCell ⟨gr, 4, none⟩ (.bool cl)) := ⟨HR8.out.h0.be.setCell (p := ⟨gr, 4, none⟩) (by show _ ≤ gr; omega) _, HR8.out.h0.ge, blk_far HR8.out.h0.z0 (p := ⟨gr, 4, none⟩) (by show w.heap.size ≠ gr; omega) _, blk_far HR8.out.h0.z1 (p := ⟨gr, 4, none⟩) (by show w.heap.size + 1 ≠ gr; omega) _⟩
                  have r9 := blk_put HR8.out.rr 4 (.bool cl) rfl
                  have o9 := rfs_set HR8.out.ow HR8.out.rr (by decide) 4 (.bool cl)
                  clear z0 z1 z2 z3 z4 y0 y1 y2 y3 y4 f0 f1 f2 f3 f4 c0 c1 c2 c3 c4 g4 hn8 HR8
                  generalize w8.setCell ⟨gr, 4, none⟩ (.bool cl) = w9 at *
                  obtain ⟨⟨z0, z1, z2, z3, z4⟩, ⟨y0, y1, y2, y3, y4⟩, ⟨f0, f1, f2, f3, f4⟩⟩ := h9.cells
                  have c0 : w9.cell? ⟨gr, 0, none⟩ = some (.string a) := (blk_cell r9 0).trans rfl
                  have c1 : w9.cell? ⟨gr, 1, none⟩ = some (.string b) := (blk_cell r9 1).trans rfl
                  have c2 : w9.cell? ⟨gr, 2, none⟩ = some (.slice ad fs.length cap) := (blk_cell r9 2).trans rfl
                  have c3 : w9.cell? ⟨gr, 3, none⟩ = some (.string ⟨#[]⟩) := (blk_cell r9 3).trans rfl
                  have c4 : w9.cell? ⟨gr, 4, none⟩ = some (.bool cl) := (blk_cell r9 4).trans rfl
                  have H9 := Aside0.mk h9
                  have O9 := Aside0.mk o9
                  have k0 := Aside0.mk h9.z0
                  clear h9 o9 r9
                  go_wp2
                  have p1 := H9.out.put (.string a) (.string b) (.slice ad fs.length cap) (.string ⟨#[]⟩) (.bool cl)
                  have o10 := rfs_set O9.out H9.out.z0 (by decide) 0 (.string a)
                  have q1 := blk_put H9.out.z0 0 (.string a) rfl
                  have o11 := rfs_set o10 q1 (by decide) 1 (.string b)
                  have q2 := blk_put q1 1 (.string b) rfl
                  have o12 := rfs_set o11 q2 (by decide) 2 (.slice ad fs.length cap)
                  have q3 := blk_put q2 2 (.slice ad fs.length cap) rfl
                  have o13 := rfs_set o12 q3 (by decide) 3 (.string ⟨#[]⟩)
                  have q4 := blk_put q3 3 (.string ⟨#[]⟩) rfl
                  have o14 := rfs_set o13 q4 (by decide) 4 (.bool cl)
                  refine bodyPost_ret (results_ct rfl _ _ w.heap.size TReq #[.string a, .string b, .slice ad fs.length cap, .string ⟨#[]⟩, .bool cl] (0, 0) _ rfl p1.1 hu rfl (by kernel_rfl)) rfl ?_
                  exact ⟨_, by rw [HPy.out]; rfl, by rw [HPy.out]; exact o14, p1.2⟩
      · have e1 : (c.toList == ([72, 84, 84, 80, 47, 49, 46, 49] : List UInt8)) = false := beq_eq_false_iff_ne.2 hv
        have e2 : (c.toList != ([72, 84, 84, 80, 47, 49, 46, 49] : List UInt8)) = true := by rw [bne, e1]; rfl
        have HPz := Aside0.mk (show headP s = headZ by rw [HP.out, if_neg (by rw [hWR, beq_eq_false_iff_ne.2 hv, Bool.false_and]; exact Bool.false_ne_true)])
        clear hv hWR
        go_wp2_with (go_quiet (fail))
        go_wp2
        refine bodyPost_ret (results_ct rfl _ _ w.heap.size TReq #[.string ⟨#[]⟩, .string ⟨#[]⟩, .slice none 0 0, .string ⟨#[]⟩, .bool false] (0, 0) _ rfl ((HL2.out.h0.below (pw_below_drewN (Below.refl _ _) _)).put _ _ _ _ _).1 hu rfl (by kernel_rfl)) rfl ?_
        exact ⟨_, by rw [HPz.out]; rfl, by rw [HPz.out]; exact Kd.R_nil _ _ _ _ _, ((HL2.out.h0.below (pw_below_drewN (Below.refl _ _) _)).put _ _ _ _ _).2⟩
    · have e3 : ((Wd.length : Int) == 3) = false := beq_eq_false_iff_ne.2 (by omega)
      have e3b : ((Wd.length : Int) != 3) = true := by rw [bne, e3]; rfl
      have HPz := Aside0.mk (show headP s = headZ by rw [HP.out, if_neg (by unfold wordsR; rw [decide_eq_false h3, Bool.false_and]; exact Bool.false_ne_true)])
      obtain ⟨⟨z0, z1, z2, z3, z4⟩, ⟨y0, y1, y2, y3, y4⟩, ⟨f0, f1, f2, f3, f4⟩⟩ := HL2.out.h0.cells
      generalize Wd.length = m at *
      clear h3
      go_wp2_with (go_quiet (fail))
      go_wp2
      refine bodyPost_ret (results_ct rfl _ _ w.heap.size TReq #[.string ⟨#[]⟩, .string ⟨#[]⟩, .slice none 0 0, .string ⟨#[]⟩, .bool false] (0, 0) _ rfl ((HL2.out.h0.below (pw_below_drewN (Below.refl _ _) _)).put _ _ _ _ _).1 hu rfl (by kernel_rfl)) rfl ?_
      exact ⟨_, by rw [HPz.out]; rfl, by rw [HPz.out]; exact Kd.R_nil _ _ _ _ _, ((HL2.out.h0.below (pw_below_drewN (Below.refl _ _) _)).put _ _ _ _ _).2⟩

def http_head.f (a0 : ByteArray) : Option (ByteArray × ByteArray × List (S50) × ByteArray × Bool × Bool) := if a0.size ≤ 1048576 then some (headP a0) else none
theorem http_head.calls (a0 : ByteArray) (r1 : ByteArray) (r2 : ByteArray) (r3 : List (S50)) (r4 : ByteArray) (r5 : Bool) (r6 : Bool) (w : World) (h : http_head.f a0 = some (r1, r2, r3, r4, r5, r6)) (hm_ : MX w) :
    Calls Tryd.prog 22 #[.string a0] w fun e w' => ∃ v2_ : Value, e = .returned (.tuple #[.agg #[.string r1, .string r2, v2_, .string r4, .bool r5], .bool r6]) ∧ Kd.R k50 50 w' w.heap.size (fun _ => True) v2_ r3 ∧ Below w.heap.size w w' := by
  unfold http_head.f at h
  by_cases hs : a0.size ≤ 1048576
  · rw [if_pos hs] at h
    have h := Option.some.inj h
    have hh := head_any a0 w hs hm_
    rw [h] at hh
    exact hh
  · rw [if_neg hs] at h
    cases h
end

end Go.Proofs.YtckbcnmcnhahhaaDoor.PI
