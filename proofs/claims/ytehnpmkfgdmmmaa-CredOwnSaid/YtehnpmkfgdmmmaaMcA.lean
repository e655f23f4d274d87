/- Bytes that '[]byte(s)' has made: a row known cell by cell; stores into it; the text of it. -/
import Derived.Test.YtehnpmkfgdmmmaaProg
import Derived.Test.YtehnpmkfgdmmmaaWWords
import Derived.WalkKit
import Derived.KernelRfl
import Derived.Lib.Hide
import Derived.RowKit3
import Derived.Lib.FrozenHead
import Derived.Test.YtehnpmkfgdmmmaaPRx
import Derived.Laws.Rows
import Derived.Deep.MidRow
import Derived.Test.YtehnpmkfgdmmmaaPNx
namespace Go.Proofs.Ytehnpmkfgdmmmaa
open Go Go.RowKit Go.Proofs.YtehnpmkfgdmmmaaW.PrintWords
set_option linter.unusedVariables false
set_option linter.unusedSimpArgs false

/-- A row of bytes in block g, cell by cell. -/
def RowB (g : Nat) (L : List UInt8) (w : World) : Prop := ∀ i, i < L.length → w.cell? ⟨g, i, none⟩ = some (.int .u8 ((L.getD i 0).toNat : Int)) ∧ w.frozen? ⟨g, i, none⟩ = false
theorem rowB_new (w : World) (s : ByteArray) : RowB w.heap.size s.data.toList (Lib.bytesWorld w 5 s) := by
  intro i hi
  rw [Array.length_toList] at hi
  refine ⟨Lib.bytesWorld_cell w 5 s i hi, ?_⟩
  have hs : (Lib.bytesCells w 5 s).size ≥ s.size := by simp [Lib.bytesCells]
  have hz : s.data.size = s.size := rfl
  simp only [World.frozen?, Lib.bytesWorld_at_new]
  simp; omega
theorem RowB.set {g : Nat} {L : List UInt8} {w : World} (h : RowB g L w) (i : Nat) (c : UInt8) : RowB g (L.set i c) (w.setCell ⟨g, i, none⟩ (.int .u8 (c.toNat : Int))) := by
  intro j hj
  rw [List.length_set] at hj
  obtain ⟨h1, h2⟩ := h j hj
  refine ⟨?_, by rw [World.frozen?_setCell]; exact h2⟩
  by_cases he : i = j
  · subst he
    rw [World.cell?_setCell_same _ _ _ h1, List.getD_eq_getElem?_getD, List.getElem?_set_self hj, Option.getD_some]
  · rw [World.cell?_setCell_other _ _ _ _ (fun h => he (by injection h)), h1, List.getD_eq_getElem?_getD, List.getD_eq_getElem?_getD, List.getElem?_set_ne he]
theorem RowB.drewN {g : Nat} {L : List UInt8} {w : World} (h : RowB g L w) (n : Nat) : RowB g L (w.drewN n) := h
theorem RowB.drew {g : Nat} {L : List UInt8} {w : World} (h : RowB g L w) : RowB g L w.drew := h
theorem row_data_inj {a b : ByteArray} (h : a.data.toList = b.data.toList) : a = b := by cases a; cases b; simp at h; rw [h]
theorem row_str (L : List UInt8) : strOfNums (L.map fun c => (c.toNat : Int)) = ⟨L.toArray⟩ := by
  apply row_data_inj
  show ((L.map fun c => (c.toNat : Int)).map fun n => UInt8.ofNat n.toNat).toArray.toList = L.toArray.toList
  simp only [List.map_map, List.toList_toArray]
  conv => rhs; rw [← List.map_id L]
  apply List.map_congr_left
  intro c _
  show UInt8.ofNat ((c.toNat : Int).toNat) = c
  rw [Int.toNat_natCast, UInt8.ofNat_toNat]
/-- The text of such a row. -/
theorem RowB.text {g : Nat} {L : List UInt8} {w : World} (h : RowB g L w) (n cap : Nat) (hn : L.length = n) : (convert 37 9 (.slice (some ⟨g, 0, none⟩) n cap)).run Try.prog w = .ok (.string ⟨L.toArray⟩) w := by
  have hcv := run_convert_bytes_arg (P := Try.prog) w 37 5 Try.underlying37 Try.underlying5 g 0 n cap (L.map fun c => (c.toNat : Int)) (by rw [List.length_map, hn]) (fun i hi => by
    have h1 := (h i (by omega)).1
    rw [Nat.zero_add, h1, List.getD_eq_getElem?_getD, List.getD_eq_getElem?_getD, List.getElem?_map, List.getElem?_eq_getElem (by omega)]; rfl) 9 Try.underlying9
  rw [← row_str]
  exact hcv
end Go.Proofs.Ytehnpmkfgdmmmaa
/- Appends onto a row that '[]byte(s)' has made (its mark lies behind the row): what the elder laws ask of an unmarked row, of this one too. -/
namespace Go.Proofs.Ytehnpmkfgdmmmaa
open Go Go.RowKit Go.Proofs.YtehnpmkfgdmmmaaW.PrintWords
set_option linter.unusedVariables false
set_option linter.unusedSimpArgs false

/-- The slice value v owns the numbers xs (a cell each); no cell of its row is marked. -/
def OwnG (w : World) (base : Nat) (e : TypeId) (k : IntKind) (v : Value) (xs : List Int) : Prop :=
  (v = .slice none 0 0 ∧ xs = []) ∨
   ∃ g cap cur fz, v = .slice (some ⟨g, 0, none⟩) xs.length cap ∧ base ≤ g ∧ w.heap[g]? = some (.cells cur e fz) ∧ (cur.size ≤ fz.1 ∨ fz.2 = 0) ∧ xs.length ≤ cap ∧ cap ≤ maxLen ∧ cur.size = cap ∧ cur.toList.take xs.length = nums k xs
theorem ownG_of {w : World} {base : Nat} {e : TypeId} {k : IntKind} {v : Value} {xs : List Int} (h : w.ownsRow base e 1 v xs.length (nums k xs)) : OwnG w base e k v xs := by
  rcases h.2 with ⟨hv, hn⟩ | ⟨g, cap, cur, hv, hb, hg, h1, h2, h3, h4⟩
  · exact .inl ⟨hv, List.eq_nil_of_length_eq_zero hn⟩
  · exact .inr ⟨g, cap, cur, (0, 0), hv, hb, hg, .inr rfl, h1, h2, by simpa using h3, by simpa using h4⟩
theorem ownG_nil (w : World) (base : Nat) (e : TypeId) (k : IntKind) : OwnG w base e k (.slice none 0 0) [] := .inl ⟨rfl, rfl⟩
theorem OwnG.lt {w : World} {base : Nat} {e : TypeId} {k : IntKind} {v : Value} {xs : List Int} (h : OwnG w base e k v xs) : ∀ b, v.ownBlock = some b → base ≤ b ∧ b < w.heap.size := by
  intro b hb
  rcases h with ⟨rfl, _⟩ | ⟨g, cap, cur, fz, rfl, hbg, hg, _⟩
  · simp [Value.ownBlock] at hb
  · simp [Value.ownBlock] at hb
    subst hb
    exact ⟨hbg, (Array.getElem?_eq_some_iff.1 hg).1⟩
theorem OwnG.kept {w w' : World} {base : Nat} {e : TypeId} {k : IntKind} {v : Value} {xs : List Int} (h : OwnG w base e k v xs) (hk : ∀ g, v.ownBlock = some g → w'.heap[g]? = w.heap[g]?) : OwnG w' base e k v xs := by
  rcases h with h | ⟨g, cap, cur, fz, rfl, hbg, hg, rest⟩
  · exact .inl h
  · exact .inr ⟨g, cap, cur, fz, rfl, hbg, (hk g rfl).trans hg, rest⟩
theorem ownG_bytes (w : World) (e : TypeId) (s : ByteArray) (hs : s.size ≤ 140737488355328) : OwnG (Lib.bytesWorld w e s) w.heap.size e .u8 (.slice (some ⟨w.heap.size, 0, none⟩) s.size (grownCap w s.size 0 e)) (s.data.toList.map fun b => (b.toNat : Int)) := by
  have hl : (s.data.toList.map fun b => (b.toNat : Int)).length = s.size := by rw [List.length_map, Array.length_toList]; rfl
  have hge := grownCap_ge w s.size 0 e
  refine .inr ⟨w.heap.size, _, Lib.bytesCells w e s, _, by rw [hl], Nat.le_refl _, Lib.bytesWorld_at_new w e s, .inl (Nat.le_refl _), by rw [hl]; exact hge, grownCap_le_maxLen w s.size 0 e (by simp only [maxLen]; omega), ?_, ?_⟩
  · simp only [Lib.bytesCells, Array.size_append, Array.size_map, Array.size_replicate]
    have : s.data.size = s.size := rfl
    omega
  · rw [hl]
    simp only [Lib.bytesCells, Array.toList_append, Array.toList_map]
    have e1 : (s.data.toList.map fun b => Value.int .u8 (b.toNat : Int)).length = s.size := by rw [List.length_map, Array.length_toList]; rfl
    rw [← e1, List.take_left]
    simp [nums]

theorem run_storeCells_atG (P : Program) (g o : Nat) (t : TypeId) (fz : Nat × Nat) : ∀ (vs : List Value) (i : Nat) (cur : Array Value) (w : World), w.heap[g]? = some (.cells cur t fz) → (cur.size ≤ fz.1 ∨ fz.2 = 0) → o + i + vs.length ≤ cur.size → (∀ v ∈ vs, v.oneCell' = true) →
    (storeCells ⟨g, o, none⟩ vs i).run P w = .ok () (w.setRow g (cur.toList.take (o + i) ++ vs ++ cur.toList.drop (o + i + vs.length)).toArray)
  | [], i, cur, w, hg, _, _, _ => by
    simp only [storeCells, List.append_nil, List.length_nil, Nat.add_zero, List.take_append_drop, Array.toArray_toList]
    rw [setRow_self w g cur t fz hg]
    rfl
  | v :: rest, i, cur, w, hg, hfz, hl, h1 => by
    have hi : o + i < cur.size := by simp at hl; omega
    have hadd : (⟨g, o, none⟩ : Addr).add i = ⟨g, o + i, none⟩ := by unfold Addr.add; split <;> simp_all
    have hcell : w.cell? ⟨g, o + i, none⟩ = some cur[o + i] := by simp [World.cell?, hg, hi]
    have hfro : w.frozen? ⟨g, o + i, none⟩ = false := by
      obtain ⟨lo, hi'⟩ := fz
      simp only [World.frozen?, hg, Bool.and_eq_false_iff, decide_eq_false_iff_not]
      simp only at hfz
      omega
    have hst : (store ((⟨g, o, none⟩ : Addr).add i) v).run P w = .ok () (w.setRow g (cur.setIfInBounds (o + i) v)) := by
      rw [hadd, run_store P w _ v _ (h1 v (by simp)), hcell]
      simp [hfro, setCell_eq_setRow w g (o + i) cur t fz v hg]
    have ih := run_storeCells_atG P g o t fz rest (i + 1) (cur.setIfInBounds (o + i) v) (w.setRow g (cur.setIfInBounds (o + i) v)) (setRow_heap w g cur _ t _ hg) (by simpa using hfz) (by simp at hl ⊢; omega) (fun x hx => h1 x (by simp [hx]))
    simp only [storeCells, Sem.run_bind, hst, Result.andThen_ok, ih, setRow_setRow]
    congr 3
    have e := list_seg_step cur.toList (o + i) v rest (by simp at hl ⊢; omega)
    simpa [Array.toList_setIfInBounds, Nat.add_assoc] using e

section
variable {P : Program} {ops : Array Oper} {rest : List Oper} {o : Oper} {a : Act} {Q : Exit → Act → World → Prop}
theorem run_append_G (W : World) (base : Nat) (t ty e : TypeId) (k : IntKind) (ht : P.underlying t = some (.slice e)) (hinfo : (P.info? e).map (fun i => (i.zero, i.size, i.bytes)) = some (some (.int k 0), 1, 1))
    (v : Value) (xs ys : List Int) (A : Option Addr) (m c : Nat) (HO : OwnG W base e k v xs) (HR : ReadsInt W k A m ys) (hbase : base ≤ W.heap.size) (hl : xs.length + m ≤ 140737488355328) :
    ∃ v1 w1, (Builtin.append_ #[t, t] ty #[v, .slice A m c]).run P W = .ok v1 w1 ∧ OwnG w1 base e k v1 (xs ++ ys) ∧ W.grownBy w1 v.ownBlock ∧ (v1.ownBlock = v.ownBlock ∨ v1.ownBlock = some W.heap.size) := by
  obtain ⟨i0, hi, hzz⟩ := Option.map_eq_some_iff.1 hinfo
  simp only [Prod.mk.injEq] at hzz
  obtain ⟨hz0, hz1, hz2⟩ := hzz
  have hm : ys.length = m := HR.1
  rcases A with _ | ad
  · have h0 : m = 0 := by
      rcases Nat.eq_zero_or_pos m with h0 | h0
      · exact h0
      · obtain ⟨ad, h, _⟩ := HR.2.2 h0
        cases h
    subst h0
    obtain rfl : ys = [] := List.eq_nil_of_length_eq_zero hm
    refine ⟨v, W, ?_, by simpa using HO, World.grownBy.refl W _, .inl rfl⟩
    rcases HO with ⟨rfl, hn⟩ | ⟨g, cap, cur, fz, rfl, _, _, _, hnc, _⟩
    · simp [Builtin.append_, run_underlying ht, sizeOf, typeInfo, hi, Builtin.lenOf, Builtin.firstCells]
    · simp [Builtin.append_, run_underlying ht, sizeOf, typeInfo, hi, Builtin.lenOf, Builtin.firstCells, hnc, storeCells]
  · have hcells : ∀ j u, (nums k ys)[j]? = some u → W.cell? (ad.add j) = some u := by
      intro j u hu
      have hj : j < ys.length := by
        rcases Nat.lt_or_ge j ys.length with h | h
        · exact h
        · simp [nums, List.getElem?_eq_none h] at hu
      obtain ⟨ad', h', hc⟩ := HR.2.2 (by omega)
      injection h' with h'
      subst h'
      have := hc j (by omega)
      simp [nums, List.getElem?_eq_getElem hj] at hu
      subst hu
      rw [this]
      simp [List.getD_eq_getElem?_getD, List.getElem?_eq_getElem hj]
    have hone : ∀ u ∈ nums k ys, u.oneCell' = true := by intro u hu; simp only [nums, List.mem_map] at hu; obtain ⟨q, _, rfl⟩ := hu; rfl
    have hnl : (nums k ys).length = m := by simp [nums, hm]
    rcases HO with ⟨rfl, rfl⟩ | ⟨g, cap, cur, fz, rfl, hbg, hg, hfz, hnc, hcm, hcs, htake⟩
    · obtain ⟨v1, w1, hr, h2, h3, _, h5⟩ := run_append_own_at (P := P) W base t ty e i0 (.int k 0) 1 1 ht hi hz0 hz1 hz2 rfl (by omega) (.slice none 0 0) 0 [] ⟨rfl, .inl ⟨rfl, rfl⟩⟩ ad m c (nums k ys) (by simp [nums, hm]) hcells hone (by simp only [maxLen]; simp at hl; omega) (by simpa using hl) hbase
      exact ⟨v1, w1, hr, ownG_of (by simpa [nums, hm] using h2), h3, h5⟩
    · have hlen : (xs ++ ys).length = xs.length + m := by rw [List.length_append, hm]
      by_cases hroom : xs.length + m ≤ cap
      · have hst := run_storeCells_atG P g xs.length e fz (nums k ys) 0 cur W hg hfz (by rw [hnl, hcs]; exact hroom) hone
        have hf := run_firstCells_some (P := P) W i0.size m ad m c (nums k ys) (by rw [hnl, hz1, Nat.mul_one]) hcells
        rw [hz1] at hf
        simp only [Nat.add_zero] at hst
        refine ⟨.slice (some ⟨g, 0, none⟩) (xs.length + m) cap, W.setRow g (cur.toList.take xs.length ++ nums k ys ++ cur.toList.drop (xs.length + m)).toArray, ?_, .inr ⟨g, cap, _, fz, by rw [hlen], hbg, setRow_heap W g cur _ e _ hg, ?_, by rw [hlen]; exact hroom, hcm, ?_, ?_⟩, ⟨rfl, rfl, rfl, by simp, fun q _ hq => setRow_other W g q _ (fun e => hq (by simp [Value.ownBlock, e]))⟩, .inl rfl⟩
        · rw [hnl] at hst
          simp [Builtin.append_, run_underlying ht, sizeOf, typeInfo, hi, hz1, Builtin.lenOf, hroom, hf, Addr.add_lit, hst]
        · simp only [List.size_toArray, List.length_append, List.length_take, List.length_drop, Array.length_toList, hnl]
          omega
        · simp only [List.size_toArray, List.length_append, List.length_take, List.length_drop, Array.length_toList, hnl]
          omega
        · rw [htake, hlen]
          have e1 : (nums k xs ++ nums k ys).length = xs.length + m := by simp [nums, hm]
          rw [← e1, List.take_left]
          simp [nums]
      · have holds : ∀ j u, (nums k xs)[j]? = some u → W.cell? ((⟨g, 0, none⟩ : Addr).add j) = some u := by
          intro j u hu
          have hadd : (⟨g, 0, none⟩ : Addr).add j = ⟨g, j, none⟩ := by unfold Addr.add; split <;> simp_all
          rw [hadd, cell_of_row W g j cur e fz hg]
          rw [← htake, List.getElem?_take] at hu
          split at hu
          · simpa using hu
          · cases hu
        have hxl : (nums k xs).length = xs.length := by simp [nums]
        have hr := run_append_grow (P := P) W t ty e i0 (.int k 0) ht hi hz0 ⟨g, 0, none⟩ xs.length cap (nums k xs) (by rw [hxl, hz1, Nat.mul_one]) holds ad m c (nums k ys) (by rw [hnl, hz1, Nat.mul_one]) hcells (by omega) (by omega) (growslice_fits (by omega) (by rw [hz2]; omega))
        have hge := grownCap_ge W (xs.length + m) cap e
        refine ⟨_, _, hr, .inr ⟨W.heap.size, _, _, (0, 0), by rw [hlen], hbase, heap_alloc_new W.drew _, .inr rfl, by rw [hlen]; exact hge, grownCap_le_maxLen W (xs.length + m) cap e (by simp only [maxLen]; omega), ?_, ?_⟩, ⟨rfl, rfl, rfl, by simp, fun q hq _ => Go.heap_alloc_old W.drew _ hq⟩, .inr rfl⟩
        · have hz1' : (Value.int k 0).cells.size = 1 := rfl
          simp only [Array.size_append, List.size_toArray, size_zeroCells, hz1', hxl, hnl]
          omega
        · simp only [Array.toList_append, List.append_assoc]
          have e1 : (nums k xs ++ nums k ys).length = (xs ++ ys).length := by simp [nums]
          rw [← List.append_assoc, ← e1, List.take_left]
          simp [nums]
theorem wpList_append_G {W : World} (base : Nat) (hgd : o.guard = none) (s x : Operand) (t e : TypeId) (k : IntKind)
    (ho : o.op = .call { callee := .builtin .append, args := #[s, x], argTypes := #[t, t] })
    (ht : P.underlying t = some (.slice e)) (hinfo : (P.info? e).map (fun i => (i.zero, i.size, i.bytes)) = some (some (.int k 0), 1, 1))
    (v : Value) (xs ys : List Int) (A : Option Addr) (m c : Nat) (hs : a.eval s = v) (hx : a.eval x = .slice A m c)
    (HO : OwnG W base e k v xs) (HR : ReadsInt W k A m ys) (hbase : base ≤ W.heap.size) (hl : xs.length + m ≤ 140737488355328)
    (h : ∀ v1 w1, OwnG w1 base e k v1 (xs ++ ys) → W.grownBy w1 v.ownBlock → (v1.ownBlock = v.ownBlock ∨ v1.ownBlock = some W.heap.size) → wpList P ops Q rest (a.put o.dst v1) w1) :
    wpList P ops Q (o :: rest) a W := by
  obtain ⟨v1, w1, hr, hown, hg, hat⟩ := run_append_G (P := P) W base t o.type e k ht hinfo v xs ys A m c HO HR hbase hl
  refine wpList_plain hgd fun K hK => ?_
  unfold Oper.wp execOp
  simp only [ho, resolve, invoke, builtin, Sem.run_bind, Sem.run_pure, Result.andThen_ok, List.map_toArray, List.map_cons, List.map_nil, hs, hx, hr]
  exact hK _ _ (h v1 w1 hown hg hat)
end
end Go.Proofs.Ytehnpmkfgdmmmaa
/- SHA-256 over words of 32 bits: plain; the walks' numbers in these words. -/
namespace Go.Proofs.Ytehnpmkfgdmmmaa.Sha
open Go Go.RowKit Go.Proofs.YtehnpmkfgdmmmaaW.PrintWords
set_option linter.unusedVariables false
set_option linter.unusedSimpArgs false

abbrev V := BitVec 32
abbrev iv (x : V) : Int := (x.toNat : Int)
def rorV (x : V) (n : Nat) : V := (x <<< (32 - n)) ||| (x >>> n)
/-- A byte as a word. -/
def cV (c : UInt8) : V := BitVec.ofNat 32 c.toNat
theorem cV_nat (c : UInt8) : (cV c).toNat = c.toNat := by
  have := c.toNat_lt
  unfold cV
  rw [BitVec.toNat_ofNat, Nat.mod_eq_of_lt (by omega)]

theorem wrapU (n : Nat) : IntKind.u32.wrap (n : Int) = ((n % 4294967296 : Nat) : Int) := by
  show (n : Int) % 4294967296 = _
  omega
theorem addV (x y : V) : IntKind.u32.wrap ((x.toNat : Int) + (y.toNat : Int)) = ((x + y).toNat : Int) := by
  rw [show (x.toNat : Int) + (y.toNat : Int) = ((x.toNat + y.toNat : Nat) : Int) by omega, wrapU, BitVec.toNat_add]
theorem bvV (x : V) : BitVec.ofInt 32 (x.toNat : Int) = x := by
  apply BitVec.eq_of_toInt_eq
  rw [BitVec.toInt_ofInt, BitVec.toInt_eq_toNat_bmod]
theorem wrapV (x : V) : IntKind.u32.wrap (x.toNat : Int) = (x.toNat : Int) := by
  have := x.isLt
  rw [wrapU, Nat.mod_eq_of_lt (by omega)]
theorem xorV (x y : V) : Go.bits .xor .u32 (x.toNat : Int) (y.toNat : Int) = ((x ^^^ y).toNat : Int) := by
  show IntKind.u32.wrap ((BitVec.ofInt 32 (x.toNat : Int) ^^^ BitVec.ofInt 32 (y.toNat : Int)).toNat : Int) = _
  rw [bvV, bvV, wrapV]
theorem andV (x y : V) : Go.bits .and .u32 (x.toNat : Int) (y.toNat : Int) = ((x &&& y).toNat : Int) := by
  show IntKind.u32.wrap ((BitVec.ofInt 32 (x.toNat : Int) &&& BitVec.ofInt 32 (y.toNat : Int)).toNat : Int) = _
  rw [bvV, bvV, wrapV]
theorem orV (x y : V) : Go.bits .or .u32 (x.toNat : Int) (y.toNat : Int) = ((x ||| y).toNat : Int) := by
  show IntKind.u32.wrap ((BitVec.ofInt 32 (x.toNat : Int) ||| BitVec.ofInt 32 (y.toNat : Int)).toNat : Int) = _
  rw [bvV, bvV, wrapV]
theorem shrV (x : V) (n : Nat) : (x.toNat : Int) / 2 ^ n = ((x >>> n).toNat : Int) := by
  rw [BitVec.toNat_ushiftRight, Nat.shiftRight_eq_div_pow, Int.natCast_ediv, Int.natCast_pow]; rfl
theorem shlV (x : V) (n : Nat) : IntKind.u32.wrap ((x.toNat : Int) * 2 ^ n) = ((x <<< n).toNat : Int) := by
  rw [show (x.toNat : Int) * 2 ^ n = ((x.toNat * 2 ^ n : Nat) : Int) by rw [Int.natCast_mul, Int.natCast_pow]; rfl, wrapU, BitVec.toNat_shiftLeft, Nat.shiftLeft_eq]
theorem notV (x : V) : IntKind.u32.wrap (-1 - (x.toNat : Int)) = ((~~~ x).toNat : Int) := by
  have := x.isLt
  rw [BitVec.toNat_not]
  show (-1 - (x.toNat : Int)) % 4294967296 = _
  omega

theorem shr_f (x : V) (n : Int) (h : 0 ≤ n) (h2 : n ≤ 32) : shr .u32 (x.toNat : Int) n = ((x >>> n.toNat).toNat : Int) := by
  rw [← shr_small rfl h2, shrV]
theorem shl_f (x : V) (n : Int) (h : 0 ≤ n) (h2 : n ≤ 32) : shl .u32 (x.toNat : Int) n = ((x <<< n.toNat).toNat : Int) := by
  rw [← shl_small rfl h2, shlV]
def ks : List Nat := [2, 3, 6, 7, 10, 11, 13, 17, 18, 19, 22, 25]
theorem ks_all (P : Nat → Prop) (h : ∀ n, n ∈ ks → P n) (n : Nat) (hn : n ∈ ks) : P n := h n hn
theorem mac_ror_f (x : V) (n : Nat) (hn : n ∈ ks) : PR.mac_ror.f (x.toNat : Int) (n : Int) = some ((rorV x n).toNat : Int) := by
  have hk : Go.bits .and .u64 (IntKind.u64.wrap (wrap64 (-(n : Int)))) 31 = ((32 - n : Nat) : Int) ∧ IntKind.u64.wrap (32 - ((32 - n : Nat) : Int)) = (n : Int) ∧ n ≤ 32 := by
    revert n; decide +kernel
  obtain ⟨h1, h2, h3⟩ := hk
  unfold PR.mac_ror.f PR.bits_RotateLeft32.f
  rw [h1, h2, if_pos (by omega), if_pos (by omega), shl_f _ _ (by omega) (by omega), shr_f _ _ (by omega) (by omega), orV]
  rfl
theorem ref_ror_f (x : V) (n : Nat) (hn : n ∈ ks) : PR.atriumref04_ror.f (x.toNat : Int) (n : Int) = some ((rorV x n).toNat : Int) := by
  have hk : wrap64 (32 - (n : Int)) = ((32 - n : Nat) : Int) ∧ n ≤ 32 := by
    revert n; decide +kernel
  obtain ⟨h1, h3⟩ := hk
  unfold PR.atriumref04_ror.f
  rw [h1, if_pos (by omega), if_pos (by omega), shl_f _ _ (by omega) (by omega), shr_f _ _ (by omega) (by omega), orV, BitVec.or_comm]
  rfl

/-! ### The sum -/
def wordV (b : List UInt8) (i : Nat) : V := (cV (b.getD (4 * i) 0) <<< 24) ||| (cV (b.getD (4 * i + 1) 0) <<< 16) ||| (cV (b.getD (4 * i + 2) 0) <<< 8) ||| cV (b.getD (4 * i + 3) 0)
def s0 (x : V) : V := rorV x 17 ^^^ rorV x 19 ^^^ (x >>> 10)
def s1 (y : V) : V := rorV y 7 ^^^ rorV y 18 ^^^ (y >>> 3)
def nextV (w : List V) (t : Nat) : V := s0 (w.getD (t - 2) 0) + w.getD (t - 7) 0 + s1 (w.getD (t - 15) 0) + w.getD (t - 16) 0
def fillW (b : List UInt8) : Nat → List V
  | 0 => List.replicate 64 0
  | i + 1 => (fillW b i).set i (wordV b i)
def schedW (b : List UInt8) : Nat → List V
  | 0 => fillW b 16
  | j + 1 => (schedW b j).set (j + 16) (nextV (schedW b j) (j + 16))
def kV : List V := [0x428a2f98, 0x71374491, 0xb5c0fbcf, 0xe9b5dba5, 0x3956c25b, 0x59f111f1, 0x923f82a4, 0xab1c5ed5,
  0xd807aa98, 0x12835b01, 0x243185be, 0x550c7dc3, 0x72be5d74, 0x80deb1fe, 0x9bdc06a7, 0xc19bf174,
  0xe49b69c1, 0xefbe4786, 0x0fc19dc6, 0x240ca1cc, 0x2de92c6f, 0x4a7484aa, 0x5cb0a9dc, 0x76f988da,
  0x983e5152, 0xa831c66d, 0xb00327c8, 0xbf597fc7, 0xc6e00bf3, 0xd5a79147, 0x06ca6351, 0x14292967,
  0x27b70a85, 0x2e1b2138, 0x4d2c6dfc, 0x53380d13, 0x650a7354, 0x766a0abb, 0x81c2c92e, 0x92722c85,
  0xa2bfe8a1, 0xa81a664b, 0xc24b8b70, 0xc76c51a3, 0xd192e819, 0xd6990624, 0xf40e3585, 0x106aa070,
  0x19a4c116, 0x1e376c08, 0x2748774c, 0x34b0bcb5, 0x391c0cb3, 0x4ed8aa4a, 0x5b9cca4f, 0x682e6ff3,
  0x748f82ee, 0x78a5636f, 0x84c87814, 0x8cc70208, 0x90befffa, 0xa4506ceb, 0xbef9a3f7, 0xc67178f2]
def firstV : List V := [0x6a09e667, 0xbb67ae85, 0x3c6ef372, 0xa54ff53a, 0x510e527f, 0x9b05688c, 0x1f83d9ab, 0x5be0cd19]
structure S8 where (a b c d e f g h : V)
def S8.l (s : S8) : List V := [s.a, s.b, s.c, s.d, s.e, s.f, s.g, s.h]
def oneV (k w : V) (v : S8) : V := v.h + (rorV v.e 6 ^^^ rorV v.e 11 ^^^ rorV v.e 25) + ((v.e &&& v.f) ^^^ (~~~ v.e &&& v.g)) + k + w
def twoV (v : S8) : V := (rorV v.a 2 ^^^ rorV v.a 13 ^^^ rorV v.a 22) + ((v.a &&& v.b) ^^^ (v.a &&& v.c) ^^^ (v.b &&& v.c))
def roundV (k w : V) (v : S8) : S8 := ⟨oneV k w v + twoV v, v.a, v.b, v.c, v.d + oneV k w v, v.e, v.f, v.g⟩
def roundsV (w : List V) (v : S8) : Nat → S8
  | 0 => v
  | t + 1 => roundV (kV.getD t 0) (w.getD t 0) (roundsV w v t)
def S8.add (x y : S8) : S8 := ⟨x.a + y.a, x.b + y.b, x.c + y.c, x.d + y.d, x.e + y.e, x.f + y.f, x.g + y.g, x.h + y.h⟩
def blockV (s : S8) (b : List UInt8) : S8 := s.add (roundsV (schedW b 48) s 64)

/-! ### Cells -/
def cvs (l : List V) : Array Value := (l.map fun x => Value.int .u32 (x.toNat : Int)).toArray
theorem cvs_size (l : List V) : (cvs l).size = l.length := by simp [cvs]
theorem cvs_get (l : List V) (i : Nat) (h : i < l.length) : (cvs l)[i]? = some (.int .u32 ((l.getD i 0).toNat : Int)) := by
  simp [cvs, List.getElem?_eq_getElem h]
theorem cvs_set (l : List V) (i : Nat) (x : V) : (cvs l).setIfInBounds i (.int .u32 (x.toNat : Int)) = cvs (l.set i x) := by
  apply Array.ext'
  simp [cvs]
end Go.Proofs.Ytehnpmkfgdmmmaa.Sha
/- Walks: the constants. -/
namespace Go.Proofs.Ytehnpmkfgdmmmaa.Sha
open Go Go.RowKit Go.Proofs.Ytehnpmkfgdmmmaa Go.Proofs.YtehnpmkfgdmmmaaW.PrintWords
set_option linter.unusedVariables false
set_option linter.unusedSimpArgs false

theorem wpList_buildTo {P : Program} {ops : Array Oper} {rest : List Oper} {o : Oper} {a : Act} {w : World} {Q : Exit → Act → World → Prop} (hg : o.guard = none) (t : TypeId) (parts : Array (Nat × Operand)) (ho : o.op = .build t parts) (cs : Array Value)
    (hf : P.built t (parts.map fun (i, x) => (i, a.eval x)).toList = some cs)
    (h : wpList P ops Q rest (a.put o.dst (.agg cs)) w) : wpList P ops Q (o :: rest) a w := by
  refine wpList_build hg t parts ho (by rw [hf]; rfl) ?_
  rw [hf]
  exact h

theorem cvs_one (l : List V) : (cvs l).all (·.oneCell') = true := by
  rw [Array.all_eq_true_iff_forall_mem]
  intro v hv
  simp only [cvs, List.mem_toArray, List.mem_map] at hv
  obtain ⟨x, _, rfl⟩ := hv
  rfl
theorem kV_len : kV.length = 64 := by kernel_rfl
theorem cvs_k : (cvs kV).size = 64 := by rw [cvs_size, kV_len]
theorem store_below {B : Nat} {a w : World} (h : Below B a w) (g : Nat) (cs : Array Value) (hg : B ≤ g) : Below B a (w.setRow g cs) :=
  ⟨h.os, h.tape, h.output, by rw [size_setRow]; exact h.size, fun k hk => (setRow_other w g k cs (by omega)).trans (h.block k hk)⟩

theorem row_new (w : World) (cs0 cs : Array Value) (t : TypeId) : ((w.alloc (.cells cs0 t)).setRow w.heap.size cs).heap[w.heap.size]? = some (.cells cs t (0, 0)) :=
  setRow_heap _ _ _ cs _ _ (heap_alloc_new w _)
theorem row_new_below (w : World) (cs0 cs : Array Value) (t : TypeId) : Below w.heap.size w ((w.alloc (.cells cs0 t)).setRow w.heap.size cs) :=
  store_below ((Below.refl _ _).alloc (Nat.le_refl _) _) _ _ (Nat.le_refl _)

theorem cvs_f : (cvs firstV).size = 8 := rfl
set_option maxHeartbeats 400000 in
set_option maxRecDepth 100000 in
theorem const_any (w : World) : Calls Try.prog 80 #[] w fun e w' => e = .returned (.agg (cvs kV)) ∧ Below w.heap.size w w' := by
  go_enter Try.func80, Try.ntmps80
  go_upto_region 1 with fail
  go_wp2_with ((refine wpList_buildTo rfl 101 _ rfl (cvs kV) (by kernel_rfl) ?_); (refine wpList_store_row rfl 101 _ _ rfl w.heap.size (cvs kV) rfl rfl _ _ (heap_alloc_new w _) (by kernel_rfl) cvs_k.symm (cvs_one _) ?_))
  generalize #[Value.int IntKind.u32 0, _, _, _, _, _, _, _, _, _, _, _, _, _, _, _, _, _, _, _, _, _, _, _, _, _, _, _, _, _, _, _, _, _, _, _, _, _, _, _, _, _, _, _, _, _, _, _, _, _, _, _, _, _, _, _, _, _, _, _, _, _, _, _] = zs
  exact bodyPost_ret (v := .agg (cvs kV)) (results_cell_row rfl _ _ w.heap.size 101 (cvs kV) (0, 0) _ rfl (row_new _ _ _ _) Try.underlying101 rfl (by kernel_rfl)) rfl ⟨rfl, row_new_below _ _ _ _⟩
set_option maxHeartbeats 400000 in
set_option maxRecDepth 100000 in
theorem ref_const_any (w : World) : Calls Try.prog 73 #[] w fun e w' => e = .returned (.agg (cvs kV)) ∧ Below w.heap.size w w' := by
  go_enter Try.func73, Try.ntmps73
  go_upto_region 1 with fail
  go_wp2_with ((refine wpList_buildTo rfl 101 _ rfl (cvs kV) (by kernel_rfl) ?_); (refine wpList_store_row rfl 101 _ _ rfl w.heap.size (cvs kV) rfl rfl _ _ (heap_alloc_new w _) (by kernel_rfl) cvs_k.symm (cvs_one _) ?_))
  generalize #[Value.int IntKind.u32 0, _, _, _, _, _, _, _, _, _, _, _, _, _, _, _, _, _, _, _, _, _, _, _, _, _, _, _, _, _, _, _, _, _, _, _, _, _, _, _, _, _, _, _, _, _, _, _, _, _, _, _, _, _, _, _, _, _, _, _, _, _, _, _] = zs
  exact bodyPost_ret (v := .agg (cvs kV)) (results_cell_row rfl _ _ w.heap.size 101 (cvs kV) (0, 0) _ rfl (row_new _ _ _ _) Try.underlying101 rfl (by kernel_rfl)) rfl ⟨rfl, row_new_below _ _ _ _⟩
set_option maxHeartbeats 400000 in
set_option maxRecDepth 100000 in
theorem first_any (w : World) : Calls Try.prog 66 #[] w fun e w' => e = .returned (.agg (cvs firstV)) ∧ Below w.heap.size w w' := by
  go_enter Try.func66, Try.ntmps66
  go_upto_region 1 with fail
  go_wp2_with ((refine wpList_buildTo rfl 93 _ rfl (cvs firstV) (by kernel_rfl) ?_); (refine wpList_store_row rfl 93 _ _ rfl w.heap.size (cvs firstV) rfl rfl _ _ (heap_alloc_new w _) (by kernel_rfl) cvs_f.symm (cvs_one _) ?_))
  generalize #[Value.int IntKind.u32 0, _, _, _, _, _, _, _] = zs
  exact bodyPost_ret (v := .agg (cvs firstV)) (results_cell_row rfl _ _ w.heap.size 93 (cvs firstV) (0, 0) _ rfl (row_new _ _ _ _) Try.underlying93 rfl (by kernel_rfl)) rfl ⟨rfl, row_new_below _ _ _ _⟩
end Go.Proofs.Ytehnpmkfgdmmmaa.Sha
/- Numbers in eight bytes; the padded text; the sum: plain. And Number, of the document. -/
namespace Go.Proofs.Ytehnpmkfgdmmmaa.Sha
open Go Go.RowKit Go.Proofs.Ytehnpmkfgdmmmaa Go.Proofs.YtehnpmkfgdmmmaaW.PrintWords
set_option linter.unusedVariables false
set_option linter.unusedSimpArgs false

def b8 (n : Nat) : UInt8 := UInt8.ofNat n
theorem b8_nat (n : Nat) : (b8 n).toNat = n % 256 := by unfold b8; rw [UInt8.toNat_ofNat']
/-- A number, the highest byte first. -/
def numB (n : Nat) : List UInt8 := [b8 (n / 2 ^ 56), b8 (n / 2 ^ 48), b8 (n / 2 ^ 40), b8 (n / 2 ^ 32), b8 (n / 2 ^ 24), b8 (n / 2 ^ 16), b8 (n / 2 ^ 8), b8 n]
theorem ref_number_f (n : Int) : PN.atriumref04_Number.f 9 n = some (strOfNums [shr .u64 n 56 % 256, shr .u64 n 48 % 256, shr .u64 n 40 % 256, shr .u64 n 32 % 256, shr .u64 n 24 % 256, shr .u64 n 16 % 256, shr .u64 n 8 % 256, shr .u64 n 0 % 256]) := by kernel_rfl
theorem shr_u64 (n k : Nat) (hk : k < 64) : shr .u64 (n : Int) (k : Int) % 256 = ((b8 (n / 2 ^ k)).toNat : Int) := by
  rw [b8_nat]
  show (n : Int) / 2 ^ min ((k : Int)).toNat 64 % 256 = _
  rw [Int.toNat_natCast, Nat.min_eq_left (by omega)]
  rw [show (n : Int) / 2 ^ k = ((n / 2 ^ k : Nat) : Int) by rw [Int.natCast_ediv, Int.natCast_pow]; rfl]
  omega
theorem ref_number_n (n : Nat) : PN.atriumref04_Number.f 9 (n : Int) = some ⟨(numB n).toArray⟩ := by
  rw [ref_number_f, ← row_str]
  have e := fun k hk => shr_u64 n k hk
  have h0 := e 0 (by omega)
  have h1 := e 8 (by omega)
  have h2 := e 16 (by omega)
  have h3 := e 24 (by omega)
  have h4 := e 32 (by omega)
  have h5 := e 40 (by omega)
  have h6 := e 48 (by omega)
  have h7 := e 56 (by omega)
  rw [Nat.pow_zero, Nat.div_one] at h0
  simp only [numB, List.map_cons, List.map_nil, ← h0, ← h1, ← h2, ← h3, ← h4, ← h5, ← h6, ← h7]
  rfl

/-! ### The padded text and the sum -/
def padN (n : Nat) : Nat := (119 - n % 64) % 64
theorem padN_lt (n : Nat) : padN n < 64 := Nat.mod_lt _ (by omega)
theorem padN_at (n : Nat) : (n + 1 + padN n) % 64 = 56 := by unfold padN; omega
theorem padN_before (n j : Nat) (h : j < padN n) : (n + 1 + j) % 64 ≠ 56 := by unfold padN at h; omega
def tailB (n : Nat) : List UInt8 := 128 :: List.replicate (padN n) 0 ++ numB ((8 * n) % 18446744073709551616)
def padded (msg : List UInt8) : List UInt8 := msg ++ tailB msg.length
theorem tailB_len (n : Nat) : (tailB n).length = padN n + 9 := by simp [tailB, numB]
theorem padded_len (msg : List UInt8) : (padded msg).length = msg.length + padN msg.length + 9 := by
  unfold padded
  rw [List.length_append, tailB_len]; omega
theorem padded_mod (msg : List UInt8) : (padded msg).length % 64 = 0 := by
  have := padN_at msg.length
  rw [padded_len]; omega
/-- Blocks one behind the other. -/
def foldB : Nat → S8 → List UInt8 → S8
  | 0, s, _ => s
  | k + 1, s, l => foldB k (blockV s (l.take 64)) (l.drop 64)
def first8 : S8 := ⟨0x6a09e667, 0xbb67ae85, 0x3c6ef372, 0xa54ff53a, 0x510e527f, 0x9b05688c, 0x1f83d9ab, 0x5be0cd19⟩
def wordB (x : V) : List UInt8 := [b8 (x.toNat / 2 ^ 24), b8 (x.toNat / 2 ^ 16), b8 (x.toNat / 2 ^ 8), b8 x.toNat]
def outB (s : S8) : List UInt8 := s.l.flatMap wordB
def sumV (msg : List UInt8) : List UInt8 := outB (foldB ((padded msg).length / 64) first8 (padded msg))
theorem outB_len (s : S8) : (outB s).length = 32 := rfl
theorem sumV_len (msg : List UInt8) : (sumV msg).length = 32 := outB_len _
theorem foldB_snoc : ∀ (k : Nat) (s : S8) (l : List UInt8), foldB (k + 1) s l = blockV (foldB k s l) ((l.drop (64 * k)).take 64)
  | 0, s, l => by simp [foldB]
  | k + 1, s, l => by
    rw [foldB, foldB_snoc k, List.drop_drop]
    rw [show foldB (k + 1) s l = foldB k (blockV s (l.take 64)) (l.drop 64) from rfl, show 64 + 64 * k = 64 * (k + 1) by omega]
end Go.Proofs.Ytehnpmkfgdmmmaa.Sha
