/- The document's Number, as a walk takes it; a row of bytes of one's own that is appended to, beside a struct in memory. -/
import Derived.Test.YtjlohahknngmmaaDoorKyR
import Derived.Test.YtjlohahknngmmaaDoorPCx
import Derived.Test.YtjlohahknngmmaaDoorPc
import Derived.Deep.RegionLaw
import Derived.Deep.RegionHeld3
namespace Go.Proofs.YtjlohahknngmmaaDoor.Ky
open Go Go.RowKit Go.Proofs.YtjlohahknngmmaaDoor Go.Proofs.YtjlohahknngmmaaDoor.PC Go.Proofs.YtjlohahknngmmaaDoorW.PrintWords Go.Proofs.YtjlohahknngmmaaDoorW.PrintLast
set_option linter.unusedVariables false
set_option linter.unusedSimpArgs false

theorem number_loop (x : Int) (hx : 0 ≤ x) (z : Nat) (hz : z ≤ 8) (j : Nat) : j ≤ z → Ev (fun k => atriumref02_Number.l0 k x (nb (x / 256 ^ j) (z - j)) ((j : Int) - 1)) (strOfNums (nb x z)) := by
  induction j with
  | zero =>
    intro _
    refine Ev.step (fun k => by simp only [atriumref02_Number.l0]; exact rfl) (evIfNeg (by omega) ?_)
    simp only [Int.pow_zero, Int.ediv_one, Nat.sub_zero]
    exact Ev.now _
  | succ j ih =>
    intro hj
    have h1 := ih (by omega)
    have hl := nb_length (x / 256 ^ (j + 1)) (z - (j + 1))
    have e1 : ((j + 1 : Nat) : Int) - 1 = (j : Int) := by omega
    have e2 : wrap64 (8 * (j : Int)) = 8 * (j : Int) := wrap64_id (by omega) (by omega)
    have e3 : wrap64 ((j : Int) - 1) = (j : Int) - 1 := wrap64_id (by omega) (by omega)
    rw [e1]
    refine Ev.step (fun k => by simp only [atriumref02_Number.l0]; exact rfl) (evIfPos (by omega) (evIfPos (by omega) (evIfPos (by omega) ?_)))
    have e4 : (shr .u64 x (8 * (j : Int))) % 256 = x / 256 ^ j % 256 := by
      have hp : (2 : Int) ^ (min (8 * (j : Int)).toNat 64) = 256 ^ j := by
        have : j = 0 ∨ j = 1 ∨ j = 2 ∨ j = 3 ∨ j = 4 ∨ j = 5 ∨ j = 6 ∨ j = 7 := by omega
        rcases this with rfl | rfl | rfl | rfl | rfl | rfl | rfl | rfl <;> decide
      show x / 2 ^ (min (8 * (j : Int)).toNat 64) % 256 = _
      rw [hp]
    have e5 : nb (x / 256 ^ j) (z - j) = nb (x / 256 ^ (j + 1)) (z - (j + 1)) ++ [x / 256 ^ j % 256] := by
      rw [show z - j = z - (j + 1) + 1 by omega, nb, Int.pow_succ, Int.ediv_ediv_of_nonneg (Int.pow_nonneg (by decide))]
    rw [e2, e3, e4, ← e5]
    exact h1
theorem number_ev (x : Int) (hx : 0 ≤ x) (z : Nat) (hz : z ≤ 8) : Ev (fun k => atriumref02_Number.f k x (z : Int)) (strOfNums (nb x z)) := by
  have h := number_loop x hx z hz z (Nat.le_refl _)
  rw [Nat.sub_self, nb] at h
  have e : wrap64 ((z : Int) - 1) = (z : Int) - 1 := wrap64_id (by omega) (by omega)
  refine Ev.congr (fun k => ?_) h
  unfold atriumref02_Number.f
  rw [e]


theorem ref_number8 (n : Int) (h0 : 0 ≤ n) (w : World) :
    Calls Tryd.prog 29 #[.int .u64 n, .int .i64 8] w fun e w' => e = .returned (.string (strOfNums (nb n 8))) ∧ Below w.heap.size w w' := by
  obtain ⟨k, hk⟩ := (number_ev n h0 8 (by decide)).rounds
  exact PC.atriumref02_Number.calls k n 8 _ w hk

/-! ### A row of bytes of one's own, a struct beside it -/
theorem infoByteK : (Tryd.prog.info? 5).map (fun i => (i.zero, i.size, i.bytes)) = some (some (.int .u8 0), 1, 1) := by kernel_rfl
structure FB (w0 : World) (v : Value) (l : List UInt8) (g : Nat) (cs : Array Value) (T : TypeId) (w : World) : Prop where
  own : w.ownsRow w0.heap.size 5 1 v l.length (Lib.byteCells l)
  be : Below w0.heap.size w0 w
  cell : w.heap[g]? = some (.cells cs T (0, 0))
  ne : T ≠ 5
/-- The row alone. -/
structure FR (w0 : World) (v : Value) (l : List UInt8) (w : World) : Prop where
  own : w.ownsRow w0.heap.size 5 1 v l.length (Lib.byteCells l)
  be : Below w0.heap.size w0 w
theorem FR.nil (w : World) : FR w (.slice none 0 0) [] w := ⟨World.ownsRow_nil _ _ _ _, Below.refl _ _⟩
theorem FR.below {w0 w w1 : World} {v : Value} {l : List UInt8} (h : FR w0 v l w) (hb : Below w.heap.size w w1) : FR w0 v l w1 :=
  ⟨h.own.kept (grown_of_below hb none) (by cases hv : v.ownBlock <;> simp), h.be.trans (hb.mono h.be.size)⟩
theorem FB.row {w0 w : World} {v : Value} {l : List UInt8} {g : Nat} {cs : Array Value} {T : TypeId} (h : FB w0 v l g cs T w) : FR w0 v l w := ⟨h.own, h.be⟩
theorem FB.below {w0 w w1 : World} {v : Value} {l : List UInt8} {g : Nat} {cs : Array Value} {T : TypeId} (h : FB w0 v l g cs T w) (hb : Below w.heap.size w w1) : FB w0 v l g cs T w1 :=
  ⟨(h.row.below hb).own, (h.row.below hb).be, (hb.block g (blk_lt h.cell)).trans h.cell, h.ne⟩
theorem FB.drew {w0 w : World} {v : Value} {l : List UInt8} {g : Nat} {cs : Array Value} {T : TypeId} (h : FB w0 v l g cs T w) : FB w0 v l g cs T w.drew := h.below (below_drew1 (Below.refl _ _))
theorem FB.drewN {w0 w : World} {v : Value} {l : List UInt8} {g : Nat} {cs : Array Value} {T : TypeId} (h : FB w0 v l g cs T w) (n : Nat) : FB w0 v l g cs T (w.drewN n) := h.below (pw_below_drewN (Below.refl _ _) n)
theorem FB.alloc {w0 w : World} {v : Value} {l : List UInt8} {g : Nat} {cs : Array Value} {T : TypeId} (h : FB w0 v l g cs T w) (o : Obj) : FB w0 v l g cs T (w.alloc o) := h.below ((Below.refl _ _).alloc (Nat.le_refl _) _)
theorem FB.at {w0 w : World} {v : Value} {l : List UInt8} {g : Nat} {cs : Array Value} {T : TypeId} (h : FB w0 v l g cs T w) (j : Nat) : w.cell? ⟨g, j, none⟩ = cs[j]? := Lib.cell_of_heap h.cell j
theorem own_lt {w : World} {base : Nat} {v : Value} {n : Nat} {xs : List Value} (h : w.ownsRow base 5 1 v n xs) : ∀ b, v.ownBlock = some b → base ≤ b ∧ ∃ cur, w.heap[b]? = some (.cells cur 5 (0, 0)) := by
  intro b hb
  rcases h.2 with ⟨rfl, _⟩ | ⟨g, cap, cur, rfl, hbg, hg, _⟩
  · simp [Value.ownBlock] at hb
  · simp [Value.ownBlock] at hb; subst hb; exact ⟨hbg, _, hg⟩
theorem FR.grown {w0 w w1 : World} {v v1 : Value} {l l1 : List UInt8} (h : FR w0 v l w) (ho : w1.ownsRow w0.heap.size 5 1 v1 l1.length (Lib.byteCells l1)) (hg : w.grownBy w1 v.ownBlock) : FR w0 v1 l1 w1 :=
  ⟨ho, h.be.grown hg h.be.size (fun k hk => (own_lt h.own k hk).1)⟩
theorem FB.grown {w0 w w1 : World} {v v1 : Value} {l l1 : List UInt8} {g : Nat} {cs : Array Value} {T : TypeId} (h : FB w0 v l g cs T w) (ho : w1.ownsRow w0.heap.size 5 1 v1 l1.length (Lib.byteCells l1)) (hg : w.grownBy w1 v.ownBlock) : FB w0 v1 l1 g cs T w1 :=
  ⟨ho, (h.row.grown ho hg).be, (hg.block g (blk_lt h.cell) (fun e => by
    obtain ⟨_, cur, hc⟩ := own_lt h.own g e.symm
    rw [h.cell] at hc
    injection hc with hc
    injection hc with _ hc _
    exact h.ne hc)).trans h.cell, h.ne⟩
theorem own_shape {w : World} {base : Nat} {v : Value} {n : Nat} {xs : List Value} (h : w.ownsRow base 5 1 v n xs) : ∃ ad cap, v = .slice ad n cap := by
  rcases h.2 with ⟨rfl, rfl⟩ | ⟨g, cap, cur, rfl, _⟩
  · exact ⟨_, _, rfl⟩
  · exact ⟨_, _, rfl⟩

/-- One byte more. -/
theorem run_app1 {W : World} {base : Nat} {v : Value} {l : List UInt8} (HO : W.ownsRow base 5 1 v l.length (Lib.byteCells l)) (q : UInt8) (ty : TypeId) (G c : Nat) (hG : W.cell? ⟨G, 0, none⟩ = some (.int .u8 (q.toNat : Int))) (hbase : base ≤ W.heap.size) (hl : l.length + 1 ≤ 140737488355328) :
    ∃ v1 w1, (Builtin.append_ #[47, 47] ty #[v, .slice (some ⟨G, 0, none⟩) 1 c]).run Tryd.prog W = .ok v1 w1 ∧ w1.ownsRow base 5 1 v1 (l ++ [q]).length (Lib.byteCells (l ++ [q])) ∧ W.grownBy w1 v.ownBlock := by
  obtain ⟨i0, hi, hz0, hz1, hz2⟩ := info_parts infoByteK
  obtain ⟨v1, w1, hr, h2, h3, _⟩ := run_append_own_at (P := Tryd.prog) (w := W) base 47 ty 5 i0 (.int .u8 0) 1 1 Tryd.underlying47 hi hz0 hz1 hz2 rfl (by decide) v l.length _ HO ⟨G, 0, none⟩ 1 c [.int .u8 (q.toNat : Int)] rfl (fun j u hj => by
    match j, hj with
    | 0, hj => simp at hj; subst hj; rw [add_plain]; exact hG) (fun u hu => by simp at hu; subst hu; rfl) (by unfold maxLen; omega) (by omega) hbase
  refine ⟨v1, w1, hr, ?_, h3⟩
  rw [Lib.byteCells_append, List.length_append]
  exact h2
/-- A text's bytes more. -/
theorem run_appS {W : World} {base : Nat} {v : Value} {l : List UInt8} (HO : W.ownsRow base 5 1 v l.length (Lib.byteCells l)) (s : ByteArray) (ty : TypeId) (hbase : base ≤ W.heap.size) (hl : l.length + s.size ≤ 140737488355328) :
    ∃ v1 w1, (Builtin.append_ #[47, 9] ty #[v, .string s]).run Tryd.prog W = .ok v1 w1 ∧ w1.ownsRow base 5 1 v1 (l ++ s.data.toList).length (Lib.byteCells (l ++ s.data.toList)) ∧ W.grownBy w1 v.ownBlock := by
  obtain ⟨i0, hi, hz0, hz1, hz2⟩ := info_parts infoByteK
  obtain ⟨v1, w1, hr, h2, h3, _⟩ := Lib.run_append_own_string (P := Tryd.prog) (w := W) base 47 9 ty 5 i0 Tryd.underlying47 Tryd.underlying9 hi hz0 hz1 hz2 v l.length _ HO s (by unfold maxLen; omega) hl hbase
  refine ⟨v1, w1, hr, ?_, h3⟩
  rw [Lib.byteCells_append, List.length_append, sz_len, ← Lib.strCells_eq]
  exact h2

section
variable {ops : Array Oper} {rest : List Oper} {o : Oper} {a : Act} {Q : Exit → Act → World → Prop}
theorem wp_app1 {W w0 : World} {v : Value} {l : List UInt8} {g : Nat} {cs : Array Value} {T : TypeId} {qi : Int} (hgd : o.guard = none) (s x : Operand)
    (ho : o.op = .call { callee := .builtin .append, args := #[s, x], argTypes := #[47, 47] }) (H : FB w0 v l g cs T W) (q : UInt8) (hq : qi = (q.toNat : Int)) (hs : a.eval s = v) (hx : a.eval x = .slice (some ⟨W.heap.size, 0, none⟩) 1 1) (hl : l.length + 1 ≤ 140737488355328)
    (h : ∀ ad cap w1, FB w0 (.slice ad (l.length + 1) cap) (l ++ [q]) g cs T w1 → wpList Tryd.prog ops Q rest (a.put o.dst (.slice ad (l.length + 1) cap)) w1) :
    wpList Tryd.prog ops Q (o :: rest) a (W.alloc (.cells #[.int .u8 qi] 5)) := by
  subst hq
  have H1 := H.alloc (.cells #[.int .u8 (q.toNat : Int)] 5)
  obtain ⟨v1, w1, hr, hown, hg⟩ := run_app1 H1.own q o.type W.heap.size 1 (cell_of_row _ _ _ _ _ _ (heap_alloc_new W _)) H1.be.size hl
  obtain ⟨ad, cap, hv⟩ := own_shape hown
  rw [List.length_append, List.length_singleton] at hv
  subst hv
  refine wpList_plain hgd fun K hK => ?_
  unfold Oper.wp execOp
  simp only [ho, resolve, invoke, builtin, Sem.run_bind, Sem.run_pure, Result.andThen_ok, List.map_toArray, List.map_cons, List.map_nil, hs, hx, hr]
  exact hK _ _ (h ad cap w1 (H1.grown hown hg))
theorem step_app1 {W w0 : World} {K : Act → World → Prop} {E : Prop} {v : Value} {l : List UInt8} {g : Nat} {cs : Array Value} {T : TypeId} {G : Nat} (hgd : o.guard = none) (s x : Operand)
    (ho : o.op = .call { callee := .builtin .append, args := #[s, x], argTypes := #[47, 47] }) (H : FB w0 v l g cs T W) (q : UInt8) (hG : W.cell? ⟨G, 0, none⟩ = some (.int .u8 (q.toNat : Int))) (hs : a.eval s = v) (hx : a.eval x = .slice (some ⟨G, 0, none⟩) 1 1) (hl : l.length + 1 ≤ 140737488355328)
    (h : ∀ ad cap w1, FB w0 (.slice ad (l.length + 1) cap) (l ++ [q]) g cs T w1 → K (a.put o.dst (.slice ad (l.length + 1) cap)) w1) :
    if Region.wanted o (yielded ops a.tmps) = true then Oper.wp Tryd.prog o a W K Q else E := by
  have hw : Region.wanted o (yielded ops a.tmps) = true := by simp [Region.wanted, hgd]
  rw [if_pos hw]
  obtain ⟨v1, w1, hr, hown, hg⟩ := run_app1 H.own q o.type G 1 hG H.be.size hl
  obtain ⟨ad, cap, hv⟩ := own_shape hown
  rw [List.length_append, List.length_singleton] at hv
  subst hv
  unfold Oper.wp execOp
  simp only [ho, resolve, invoke, builtin, Sem.run_bind, Sem.run_pure, Result.andThen_ok, List.map_toArray, List.map_cons, List.map_nil, hs, hx, hr]
  exact h ad cap w1 (H.grown hown hg)
theorem step_appS {W w0 : World} {K : Act → World → Prop} {E : Prop} {v : Value} {l : List UInt8} {g : Nat} {cs : Array Value} {T : TypeId} (hgd : o.guard = none) (s x : Operand)
    (ho : o.op = .call { callee := .builtin .append, args := #[s, x], argTypes := #[47, 9] }) (H : FB w0 v l g cs T W) (S : ByteArray) (hs : a.eval s = v) (hx : a.eval x = .string S) (hl : l.length + S.size ≤ 140737488355328)
    (h : ∀ ad cap w1, FB w0 (.slice ad (l.length + S.size) cap) (l ++ S.data.toList) g cs T w1 → K (a.put o.dst (.slice ad (l.length + S.size) cap)) w1) :
    if Region.wanted o (yielded ops a.tmps) = true then Oper.wp Tryd.prog o a W K Q else E := by
  have hw : Region.wanted o (yielded ops a.tmps) = true := by simp [Region.wanted, hgd]
  rw [if_pos hw]
  obtain ⟨v1, w1, hr, hown, hg⟩ := run_appS H.own S o.type H.be.size hl
  obtain ⟨ad, cap, hv⟩ := own_shape hown
  rw [List.length_append, sz_len] at hv
  subst hv
  unfold Oper.wp execOp
  simp only [ho, resolve, invoke, builtin, Sem.run_bind, Sem.run_pure, Result.andThen_ok, List.map_toArray, List.map_cons, List.map_nil, hs, hx, hr]
  exact h ad cap w1 (H.grown hown hg)
end
theorem run_geq_str {P : Program} {t : TypeId} (hu : P.underlying t = some .string) (a b : ByteArray) (w : World) : (binOp .geq t (.string a) (.string b)).run P w = .ok (.bool (!Op.bytesLess a.toList b.toList)) w := by
  simp [binOp, Op.stringOp, run_underlying hu]
theorem cells_nums (l : List UInt8) : Lib.byteCells l = nums .u8 (l.map fun c => (c.toNat : Int)) := by simp [Lib.byteCells, nums]
theorem nums_text (l : List UInt8) : strOfNums (l.map fun c => (c.toNat : Int)) = ⟨l.toArray⟩ := by
  apply data_inj
  rw [strOfNums_data, List.map_map]
  conv => rhs; rw [show (⟨l.toArray⟩ : ByteArray).data.toList = l.map id by rw [List.map_id]]
  apply List.map_congr_left
  intro c hc
  simp
theorem row_text {w : World} {base : Nat} {ad : Option Addr} {n c : Nat} {l : List UInt8} (h : w.ownsRow base 5 1 (.slice ad n c) l.length (Lib.byteCells l)) : (convert 47 9 (.slice ad n c)).run Tryd.prog w = .ok (.string ⟨l.toArray⟩) w := by
  rw [cells_nums] at h
  have hl : (l.map fun c => (c.toNat : Int)).length = l.length := List.length_map _
  rw [← hl] at h
  obtain ⟨A, c', hv, hr⟩ := reads_of_own h
  injection hv with e1 e2 e3
  subst e1 e2 e3
  have := string_of_reads (P := Tryd.prog) (c := c) Tryd.underlying47 Tryd.underlying5 Tryd.underlying9 hr
  rw [nums_text] at this
  exact this
end Go.Proofs.YtjlohahknngmmaaDoor.Ky
namespace Go.Proofs.YtjlohahknngmmaaDoor
open Go Go.RowKit
/-! ### As the print has its functions -/
def codec_text.f (a0 : ByteArray) : Option (ByteArray × ByteArray × Bool) := if a0.size ≤ 140737488351232 then some (Ky.textRes a0) else none
theorem codec_text.calls (a0 : ByteArray) (r1 r2 : ByteArray) (r3 : Bool) (w : World) (h : codec_text.f a0 = some (r1, r2, r3)) :
    Calls Tryd.prog 32 #[.string a0] w fun e w' => e = .returned (.tuple #[.string r1, .string r2, .bool r3]) ∧ Below w.heap.size w w' := by
  unfold codec_text.f at h
  split at h
  · rename_i hs
    injection h with h
    have := Ky.text_any a0 w hs
    rw [h] at this
    exact this
  · cases h
end Go.Proofs.YtjlohahknngmmaaDoor
