/- The argument '[]Op' of a law, opened to a list of plain records. (open_slice_fields: after the kit's paper on structs.) -/
import Derived.Test.YtjlohahknngmmaaPEx0
import Derived.Deep.Slices
import Derived.Deep.Fields
import Derived.ChangeSame
import Derived.ChangeArms
import Derived.KernelRfl
import Derived.Deep.Strs
import Derived.SizedLaws
import Derived.Lib.SmallJoins
namespace Go.Proofs.Ytjlohahknngmmaa
open Go Go.ChangeShapes Go.WideShapes Go.Deep Go.RowKit Go.Proofs.YtjlohahknngmmaaW.PrintWords Go.Proofs.Ytjlohahknngmmaa.PE
set_option linter.unusedVariables false

theorem list_of {α : Type} {P : Nat → α → Prop} : ∀ n : Nat, (∀ i, i < n → ∃ x, P i x) → ∃ l : List α, l.length = n ∧ ∀ i x, l[i]? = some x → P i x
  | 0, _ => ⟨[], rfl, fun i x h => by simp at h⟩
  | n + 1, h => by
    obtain ⟨l, hl, hp⟩ := list_of n (fun i hi => h i (by omega))
    obtain ⟨x, hx⟩ := h n (by omega)
    refine ⟨l ++ [x], by simp [hl], fun i y hy => ?_⟩
    rcases Nat.lt_trichotomy i n with hi | rfl | hi
    · rw [List.getElem?_append_left (by omega)] at hy
      exact hp i y hy
    · rw [List.getElem?_append_right (by omega), hl, Nat.sub_self] at hy
      simp at hy
      rw [← hy]; exact hx
    · rw [List.getElem?_eq_none (by simp; omega)] at hy
      cases hy

section
variable {H : Type} {enc : TypeId × Value → H}
/-- A step's datum. -/
def opD (o : S41) : DataW H := .agg [.lit (.int .i64 o.f0), .lit (.int .u64 o.f1), .lit (.string o.f2.data.toList)]

theorem open_ops {W : World} {base : Nat} {spare : Nat → Bool} {held : Bool} {fuel : Nat} {cs : List Value} {x : DataW H × List MemPlace} (h : DataW.trod enc Try.prog W base spare held fuel 36 cs = some x) :
    ∃ (A : Option Addr) (c : Nat) (ops : List S41), cs = [.slice A ops.length c] ∧ ops.length ≤ c ∧ Kd.C k41 W A ops.length ops ∧ (∀ o ∈ ops, (Lit.int .i64 o.f0).wf = true ∧ (Lit.int .u64 o.f1).wf = true) ∧
      ((x.1 = .nil ∧ ops = []) ∨ ∃ sp, x.1 = .slice (ops.map opD) sp) := by
  rcases open_slice Try.underlying36 h with ⟨rfl, rfl⟩ | ⟨a, len, cap, m, n, D, Pl, hcs, hb, hl, hm, hmm, hx, hi⟩
  · exact ⟨none, 0, [], rfl, Nat.le_refl _, Kd.C_nil _ _, (fun o ho => by cases ho), .inl ⟨rfl, rfl⟩⟩
  · have hlm : len ≤ m := by rw [hmm]; split <;> omega
    have hel : ∀ i, i < len → ∃ o : S41, D i = opD o ∧ (Lit.int .i64 o.f0).wf = true ∧ (Lit.int .u64 o.f1).wf = true ∧ ∀ j u, [Value.int .i64 o.f0, .int .u64 o.f1, .string o.f2][j]? = some u → W.cell? (a.add (i * 3 + j)) = some u := by
      intro i hil
      obtain ⟨cs', hc, ht'⟩ := hi i (by omega)
      have hC : Try.prog.cellsOf 41 = 3 := by kernel_rfl
      have k0 : Try.prog.cellsOf 3 = 1 := by kernel_rfl
      have k1 : Try.prog.cellsOf 22 = 1 := by kernel_rfl
      have k2 : Try.prog.cellsOf 9 = 1 := by kernel_rfl
      rw [hC] at hc
      obtain ⟨y0, y1, y2, n', hy, hlen, f0, f1, f2⟩ := trod_struct3 Try.underlying41 ht'
      obtain ⟨_, hcl, hat⟩ := World.cells?_some hc
      rw [hC] at hlen
      match cs', hlen with
      | [c0, c1, c2], _ =>
        have f0 : DataW.trod enc Try.prog W base spare held n' 3 [c0] = some y0 := by simpa [k0] using f0
        have f1 : DataW.trod enc Try.prog W base spare held n' 22 [c1] = some y1 := by simpa [k1] using f1
        have f2 : DataW.trod enc Try.prog W base spare held n' 9 [c2] = some y2 := by simpa [k2] using f2
        obtain ⟨p0, e0, r0, w0⟩ := DataW.trod_int Try.underlying3 f0
        obtain ⟨p1, e1, r1, w1⟩ := DataW.trod_int Try.underlying22 f1
        obtain ⟨p2, e2, r2, w2⟩ := DataW.trod_string Try.underlying9 f2
        simp at e0 e1 e2
        subst e0 e1 e2 r0 r1 r2
        simp only [Prod.mk.injEq] at hy
        refine ⟨⟨p0, p1, p2⟩, hy.1, w0, w1, fun j u hu => ?_⟩
        have hj : j < 3 := (List.getElem?_eq_some_iff.1 hu).1
        have := hat j hj
        rw [← Go.Deep.add_add, this]
        exact hu
    obtain ⟨ops, hops, hP⟩ := list_of len hel
    refine ⟨some a, cap, ops, by rw [hops]; exact hcs, by omega, ?_, ?_, .inr ⟨(List.range (m - len)).map fun j => D (len + j), ?_⟩⟩
    · refine ⟨rfl, by rw [hops]; unfold maxLen at hm; omega, fun _ => ⟨a, rfl, fun j o hj => ⟨_, rfl, k41_mk W o, fun i u hu => ?_⟩⟩⟩
      exact (hP j o hj).2.2.2 i u hu
    · intro o ho
      obtain ⟨i, hi', he⟩ := List.getElem_of_mem ho
      have := hP i o (by rw [List.getElem?_eq_getElem hi', he])
      exact ⟨this.2.1, this.2.2.1⟩
    · rw [hx]
      simp only
      congr 1
      apply List.ext_getElem
      · simp [hops]
      · intro i h1 h2
        have h3 : i < ops.length := by simpa using h2
        have := hP i ops[i] (List.getElem?_eq_getElem h3)
        simp [this.1]
end
end Go.Proofs.Ytjlohahknngmmaa
