/- Arguments of a law, opened kind by kind: what reads as a datum of a type is of that type's kind; with what it takes to know its sizes. -/
import Derived.Test.YtckbcnmcnhahhaaDoorWWords
import Derived.Test.YtckbcnmcnhahhaaDoorRows
import Derived.Deep.Slices
import Derived.ChangeArms
import Derived.WideShapes
import Derived.OpenShut
import Derived.KernelRfl
import Derived.SizedLaws
namespace Go.Proofs.YtckbcnmcnhahhaaDoor.Opn
open Go Go.RowKit Go.ChangeShapes Go.WideShapes Go.Deep Go.Proofs.YtckbcnmcnhahhaaDoorW.PrintWords
set_option linter.unusedVariables false

/-- All of a datum's weights are within reach. -/
def Light {H : Type} (t : TypeId) (d : DataW H) : Prop := ∀ n ∈ DataW.weights Tryd.prog t d, n ≤ reachBytes

/-- What reads as a datum of type t is of kind d; it is 'ok' if its datum is light; and it is no heavier than the datum's bulk. -/
def Opens {α : Type} (d : Kd α) (t : TypeId) (ok : α → Prop) (wt : α → Nat) : Prop :=
  Tryd.prog.cellsOf t = d.sz ∧ ∀ {H : Type} (enc : TypeId × Value → H) (W : World) (base : Nat) (spare : Nat → Bool) (held : Bool) (fuel : Nat) (cs : List Value) (x : DataW H × List MemPlace),
    DataW.trod enc Tryd.prog W base spare held fuel t cs = some x → ∃ v : α, d.K W v cs ∧ (Light t x.1 → ok v) ∧ wt v ≤ Rows.uptoBulk x.1

theorem opens_string {t : TypeId} (hu : Tryd.prog.underlying t = some .string) (hc : Tryd.prog.cellsOf t = 1) : Opens Kd.string t (fun s => s.size ≤ 140737488351232) (fun s => s.size + 1) := by
  refine ⟨hc, fun enc W base spare held fuel cs x h => ?_⟩
  obtain ⟨s, rfl, rfl, hw⟩ := DataW.trod_string hu h
  refine ⟨s, rfl, fun hl => ?_, ?_⟩
  · have := hl s.data.toList.length (by simp [DataW.weights])
    rw [Array.length_toList] at this
    exact this
  · show s.size + 1 ≤ Rows.uptoBulk (.lit (.string s.data.toList))
    have : s.data.toList.length = s.size := Array.length_toList
    simp only [Rows.uptoBulk]
    omega

/-- An argument, opened. -/
theorem Opens.arg {α : Type} {d : Kd α} {t : TypeId} {ok : α → Prop} {wt : α → Nat} (h : Opens d t ok wt) {H : Type} {enc : TypeId × Value → H} {W : World} {base : Nat} {spare : Nat → Bool} {held : Bool} {v : Value} {x : DataW H} {ps : List MemPlace}
    (ht : DataW.Trod enc Tryd.prog W base spare held t v x ps) : ∃ y : α, d.K W y v.cells.toList ∧ (Light t x → ok y) ∧ wt y ≤ Rows.uptoBulk x := by
  obtain ⟨fuel, hf⟩ := ht
  obtain ⟨y, h1, h2, h3⟩ := h.2 enc W base spare held fuel _ _ hf
  exact ⟨y, h1, h2, h3⟩
theorem light_of {H : Type} {ts : List TypeId} {ds : List (DataW H)} (h : (DataW.weightsEach Tryd.prog ts ds).all (· ≤ reachBytes) = true) (j : Nat) (t : TypeId) (d : DataW H) (ht : ts[j]? = some t) (hd : ds[j]? = some d) : Light t d :=
  fun n hn => of_decide_eq_true (List.all_eq_true.1 h n (DataW.weights_mem_each ht hd n hn))
end Go.Proofs.YtckbcnmcnhahhaaDoor.Opn
