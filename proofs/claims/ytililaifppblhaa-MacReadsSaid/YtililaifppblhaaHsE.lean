/- Walks: mac's Sum; turned. -/
import Derived.Test.YtililaifppblhaaHsD
namespace Go.Proofs.Ytililaifppblhaa.Sha
open Go Go.RowKit Go.Proofs.Ytililaifppblhaa Go.Proofs.YtililaifppblhaaW.PrintWords
set_option linter.unusedVariables false
set_option linter.unusedSimpArgs false

theorem hx_new {h : Nat} {w : World} (H : HB h first8 (List.replicate 64 0) 0 0 w) : HX h [] 0 w := ⟨_, _, _, H, absd_nil⟩
set_option maxHeartbeats 1000000 in
theorem mac_sum_any (s : ByteArray) (w : World) (hs : s.size ≤ 1152921504606846976) : Calls Try.prog 12 #[.string s] w fun e w' => e = .returned (.string ⟨(sumV s.data.toList).toArray⟩) ∧ Below w.heap.size w w' := by
  have Hs := Aside0.mk hs
  clear hs
  go_enter Try.func12, Try.ntmps12
  go_wp2_with fail
  refine (new_any _).mono ?_
  rintro e1 w1 ⟨h, rfl, hh, H1, hb1⟩
  have H1 := Aside0.mk (hx_new H1)
  have Hb1 := Aside0.mk hb1
  have Hh := Aside0.mk hh
  clear hb1 hh
  go_wp2_with fail
  refine (write_any h [] 0 s w1 H1.out (by have := Hs.out; omega) (by omega)).mono ?_
  rintro e2 w2 ⟨rfl, h2, k2⟩
  rw [List.nil_append, Nat.zero_add] at h2
  have H2 := Aside0.mk (show HX h s.data.toList s.data.toList.length w2 by rw [Array.length_toList]; exact h2)
  have Hb2 := Aside0.mk (kb_below Hb1.out k2 Hh.out Hb1.out.size)
  clear h2 k2 H1
  go_wp2_with fail
  refine (sum_any h s.data.toList w2 H2.out (by rw [Array.length_toList]; exact Hs.out)).mono ?_
  rintro e3 w3 ⟨rfl, hb3⟩
  have Hb3 := Aside0.mk (Hb2.out.trans (hb3.mono Hb2.out.size))
  clear hb3
  go_wp2
  go_ret
  exact ⟨rfl, Hb3.out⟩

/-! ### turned -/
def key64 (key : List UInt8) : List UInt8 := key ++ List.replicate (64 - key.length) 0
def turnedL (key : List UInt8) (by_ : UInt8) : List UInt8 := (key64 key).map (· ^^^ by_)
def turnedTo (key : List UInt8) (by_ : UInt8) (i : Nat) : List UInt8 := ((key64 key).take i).map (· ^^^ by_) ++ (key64 key).drop i
theorem key64_len (key : List UInt8) (h : key.length ≤ 64) : (key64 key).length = 64 := by
  unfold key64
  rw [List.length_append, List.length_replicate]; omega
theorem turnedTo_len (key : List UInt8) (by_ : UInt8) (i : Nat) (h : key.length ≤ 64) : (turnedTo key by_ i).length = 64 := by
  unfold turnedTo
  rw [List.length_append, List.length_map, List.length_take, List.length_drop, key64_len key h]; omega
theorem turnedTo_zero (key : List UInt8) (by_ : UInt8) : turnedTo key by_ 0 = key64 key := rfl
theorem turnedTo_full (key : List UInt8) (by_ : UInt8) (h : key.length ≤ 64) : turnedTo key by_ 64 = turnedL key by_ := by
  unfold turnedTo turnedL
  rw [List.take_of_length_le (by rw [key64_len key h]; omega), List.drop_eq_nil_of_le (by rw [key64_len key h]; omega), List.append_nil]
theorem turnedTo_at (key : List UInt8) (by_ : UInt8) (i : Nat) (h : key.length ≤ 64) (hi : i < 64) : (turnedTo key by_ i).getD i 0 = (key64 key).getD i 0 := by
  have e : (((key64 key).take i).map (· ^^^ by_)).length = i := by rw [List.length_map, List.length_take, key64_len key h]; omega
  unfold turnedTo
  rw [List.getD_eq_getElem?_getD, List.getElem?_append_right (by omega), e, Nat.sub_self, List.getElem?_drop, Nat.add_zero, List.getD_eq_getElem?_getD]
theorem turnedTo_put (key : List UInt8) (by_ : UInt8) (i : Nat) (h : key.length ≤ 64) (hi : i < 64) : (turnedTo key by_ i).set i ((key64 key).getD i 0 ^^^ by_) = turnedTo key by_ (i + 1) := by
  have hl := key64_len key h
  have e : (((key64 key).take i).map (· ^^^ by_)).length = i := by rw [List.length_map, List.length_take, hl]; omega
  unfold turnedTo
  rw [List.set_append_right _ _ (by omega), e, Nat.sub_self, List.take_succ_eq_append_getElem (by omega), List.map_append, List.append_assoc]
  congr 1
  rw [List.drop_eq_getElem_cons (by omega), List.set_cons_zero, List.getD_eq_getElem?_getD, List.getElem?_eq_getElem (by omega)]
  rfl
theorem wpList_copy_rowstr {P : Program} {ops : Array Oper} {rest : List Oper} {o : Oper} {a : Act} {w : World} {Q : Exit → Act → World → Prop}
    (hg : o.guard = none) (d x : Operand) (dT sT : TypeId) (hop : o.op = Op.call { callee := Callee.builtin Builtin.copy, args := #[d, x], argTypes := #[dT, sT] })
    (elem : TypeId) (hu : P.underlying dT = some (.slice elem)) (hz : (P.info? elem).map (·.size) = some 1)
    (b off dLen dCap : Nat) (hd : a.eval d = .slice (some ⟨b, off, none⟩) dLen dCap) (t : ByteArray) (hx : a.eval x = .string t)
    (cur : Array Value) (ty : TypeId) (hrow : w.heap[b]? = some (.cells cur ty (0, 0))) (hk : t.size ≤ dLen) (hfit : off + t.size ≤ cur.size)
    (h : wpList P ops Q rest (a.put o.dst (goInt t.size)) (w.setRow b (cur.toList.take off ++ Lib.byteCells t.data.toList ++ cur.toList.drop (off + t.size)).toArray)) :
    wpList P ops Q (o :: rest) a w := by
  refine wpList_plain hg fun K hK => ?_
  have hrun := Lib.run_copy_row_string (P := P) w dT sT o.type elem b off dLen dCap t cur ty hu hz hrow hk hfit
  unfold Oper.wp
  simp only [execOp, hop, resolve, invoke, builtin, List.map_toArray, List.map_cons, List.map_nil, hd, hx, Sem.run_bind, Sem.run_pure, Result.andThen_ok, hrun]
  exact hK _ _ h
def z64 : List UInt8 := List.replicate 64 0
theorem key64_row (key : ByteArray) (hk : key.size ≤ 64) : ((bcs z64).toList.take 0 ++ Lib.byteCells key.data.toList ++ (bcs z64).toList.drop (0 + key.size)).toArray = bcs (key64 key.data.toList) := by
  have e : key.data.toList.length = key.size := Array.length_toList
  unfold key64 bcs z64
  rw [e]
  generalize 64 = N at *
  apply Array.ext'
  simp [Lib.byteCells]
theorem bv8 (x : UInt8) : BitVec.ofInt 8 (x.toNat : Int) = x.toBitVec := by
  apply BitVec.eq_of_toInt_eq
  rw [BitVec.toInt_ofInt, BitVec.toInt_eq_toNat_bmod]
  rfl
theorem xor8 (x y : UInt8) : Go.bits .xor .u8 (x.toNat : Int) (y.toNat : Int) = ((x ^^^ y).toNat : Int) := by
  show IntKind.u8.wrap ((BitVec.ofInt 8 (x.toNat : Int) ^^^ BitVec.ofInt 8 (y.toNat : Int)).toNat : Int) = _
  rw [bv8, bv8]
  show ((x ^^^ y).toNat : Int) % 256 = _
  have := (x ^^^ y).toNat_lt
  omega
set_option maxHeartbeats 1000000 in
theorem turned_any (key : ByteArray) (c : UInt8) (w : World) (hk : key.size ≤ 64) : Calls Try.prog 43 #[.string key, .int .u8 (c.toNat : Int)] w fun e w' => e = .returned (.string ⟨(turnedL key.data.toList c).toArray⟩) ∧ Below w.heap.size w w' := by
  have hkl : key.data.toList.length ≤ 64 := by rw [Array.length_toList]; exact hk
  have Hk := Aside0.mk hk
  have Hkl := Aside0.mk hkl
  clear hkl
  go_enter Try.func43, Try.ntmps43
  have hmk : ∀ wx, (Instr.makeSlice 28 (.int .i64 64) (.int .i64 64)).run Try.prog wx = .ok (.slice (some ⟨wx.heap.size, 0, none⟩) 64 64) (wx.alloc (.cells (bcs z64) 5)) := fun wx => by kernel_rfl
  have Hz := Aside0.mk (show key.size ≤ (bcs z64).size by rw [bcs_size]; exact hk)
  have HB := Aside0.mk ((Below.refl w.heap.size w).alloc (Nat.le_refl _) (.cells (bcs z64) 5))
  go_upto_region 3 with ((refine wpList_copy_rowstr rfl (.tmp 8) (.tmp 9) 28 9 rfl 5 Try.underlying28 (by kernel_rfl) w.heap.size 0 64 64 rfl key rfl _ _ (heap_alloc_new w _) Hk.out (by rw [Nat.zero_add]; exact Hz.out) ?_))
  have Hb := Aside0.mk (heap_alloc_new w (.cells (bcs z64) 5))
  generalize w.alloc (.cells (bcs z64) 5) = w1 at Hb HB ⊢
  rw [key64_row key Hk.out]
  have Hb2 := Aside0.mk (setRow_heap w1 w.heap.size _ (bcs (key64 key.data.toList)) _ _ Hb.out)
  have HB2 := Aside0.mk (store_below HB.out w.heap.size (bcs (key64 key.data.toList)) (Nat.le_refl _))
  generalize w1.setRow w.heap.size (bcs (key64 key.data.toList)) = w2 at Hb2 HB2 ⊢
  rw [← turnedTo_zero _ c] at Hb2
  clear Hb HB
  go_wp2
  go_loopw [13] (fun iv wr => ∃ i : Nat, i ≤ 64 ∧ iv = .int .i64 i ∧ Aside0 (wr.heap[w.heap.size]? = some (.cells (bcs (turnedTo key.data.toList c i)) 5 (0, 0))) ∧ Aside0 (Below w.heap.size w wr)) (fun iv _ => 64 - (intOf iv).toNat)
  case atStart => exact ⟨0, Nat.zero_le _, rfl, Hb2, HB2⟩
  case round =>
    clear Hb2 HB2
    obtain ⟨i, hi, rfl, Hb, HB⟩ := hrel
    by_cases hlt : i < 64
    · have hc := row_of_bcs _ _ _ _ Hb.out i (by rw [turnedTo_len _ _ _ Hkl.out]; exact hlt)
      have hc1 := hc.1
      have hc2 := hc.2
      clear hc
      rw [turnedTo_at _ _ _ Hkl.out hlt] at hc1
      have hp := turnedTo_put key.data.toList c i Hkl.out hlt
      generalize (key64 key.data.toList).getD i 0 = x at *
      have hx := xor8 x c
      have Hp := Aside0.mk hp
      have Hx := Aside0.mk hx
      clear hp hx
      have i1 : (0 : Int) ≤ (i : Int) := by omega
      have i2 : (i : Int) < 64 := by omega
      go_wp2
      go_roundw
      case rel =>
        refine ⟨i + 1, by omega, by go_num, ⟨?_⟩, ⟨HB.out.setCell (p := ⟨w.heap.size, i, none⟩) (Nat.le_refl _) _⟩⟩
        rw [← Hp.out, ← bcs_set, ← Hx.out]
        exact heap_setCell_same _ _ _ _ _ _ Hb.out
      case measure => simp [intOf]; omega
    · obtain rfl : i = 64 := by omega
      have hcv := (row_of_bcs _ _ _ _ Hb.out).text 64 64 (turnedTo_len _ _ _ Hkl.out)
      rw [turnedTo_full _ _ Hkl.out] at hcv
      go_wp2
      go_ret
      exact ⟨rfl, HB.out⟩
end Go.Proofs.Ytililaifppblhaa.Sha
