/- Arguments of a law, opened kind by kind: what reads as a datum of a type is of that type's kind; with what it takes to know its sizes. -/
import Derived.Test.YtamhecmopnekjaaWWords
import Derived.Test.YtamhecmopnekjaaRows
import Derived.Deep.Slices
import Derived.ChangeArms
import Derived.WideShapes
import Derived.OpenShut
import Derived.KernelRfl
import Derived.SizedLaws
namespace Go.Proofs.Ytamhecmopnekjaa.Opn
open Go Go.RowKit Go.ChangeShapes Go.WideShapes Go.Deep Go.Proofs.YtamhecmopnekjaaW.PrintWords
set_option linter.unusedVariables false

theorem list_of {α : Type} {P : Nat → α → Prop} : ∀ n : Nat, (∀ i, i < n → ∃ x, P i x) → ∃ l : List α, l.length = n ∧ ∀ i x, l[i]? = some x → P i x
  | 0, _ => ⟨[], rfl, fun i x h => by simp at h⟩
  | n + 1, h => by
    obtain ⟨l, hl, hp⟩ := list_of n (fun i hi => h i (by omega))
    obtain ⟨x, hx⟩ := h n (by omega)
    refine ⟨l ++ [x], by simp [hl], fun i y hy => ?_⟩
    rcases Nat.lt_trichotomy i n with hi | rfl | hi
    · rw [List.getElem?_append_left (by omega)] at hy
      exact hp i y hy
    · rw [List.getElem?_append_right (by omega), hl, Nat.sub_self] at hy
      simp at hy
      rw [← hy]; exact hx
    · rw [List.getElem?_eq_none (by simp; omega)] at hy
      cases hy

/-- All of a datum's weights are within reach. -/
def Light {H : Type} (t : TypeId) (d : DataW H) : Prop := ∀ n ∈ DataW.weights Try.prog t d, n ≤ reachBytes

/-- What reads as a datum of type t is of kind d; it is 'ok' if its datum is light; and it is no heavier than the datum's bulk. -/
def Opens {α : Type} (d : Kd α) (t : TypeId) (ok : α → Prop) (wt : α → Nat) : Prop :=
  Try.prog.cellsOf t = d.sz ∧ ∀ {H : Type} (enc : TypeId × Value → H) (W : World) (base : Nat) (spare : Nat → Bool) (held : Bool) (fuel : Nat) (cs : List Value) (x : DataW H × List MemPlace),
    DataW.trod enc Try.prog W base spare held fuel t cs = some x → ∃ v : α, d.K W v cs ∧ (Light t x.1 → ok v) ∧ wt v ≤ Rows.uptoBulk x.1

theorem opens_int {k : IntKind} {t : TypeId} (hu : Try.prog.underlying t = some (.int k)) (hc : Try.prog.cellsOf t = 1) : Opens (Kd.int k) t (fun n => (Lit.int k n).wf = true) (fun _ => 1) := by
  refine ⟨hc, fun enc W base spare held fuel cs x h => ?_⟩
  obtain ⟨n, rfl, rfl, hw⟩ := DataW.trod_int hu h
  exact ⟨n, rfl, fun _ => hw, Nat.le_refl _⟩
theorem opens_bool {t : TypeId} (hu : Try.prog.underlying t = some .bool) (hc : Try.prog.cellsOf t = 1) : Opens Kd.bool t (fun _ => True) (fun _ => 1) := by
  refine ⟨hc, fun enc W base spare held fuel cs x h => ?_⟩
  obtain ⟨n, rfl, rfl⟩ := DataW.trod_bool hu h
  exact ⟨n, rfl, fun _ => trivial, Nat.le_refl _⟩
theorem opens_string {t : TypeId} (hu : Try.prog.underlying t = some .string) (hc : Try.prog.cellsOf t = 1) : Opens Kd.string t (fun s => s.size ≤ 140737488351232) (fun s => s.size + 1) := by
  refine ⟨hc, fun enc W base spare held fuel cs x h => ?_⟩
  obtain ⟨s, rfl, rfl, hw⟩ := DataW.trod_string hu h
  refine ⟨s, rfl, fun hl => ?_, ?_⟩
  · have := hl s.data.toList.length (by simp [DataW.weights])
    rw [Array.length_toList] at this
    exact this
  · show s.size + 1 ≤ Rows.uptoBulk (.lit (.string s.data.toList))
    have : s.data.toList.length = s.size := Array.length_toList
    simp only [Rows.uptoBulk]
    omega

/-- The weight of a list. -/
def lwt {α : Type} (wt : α → Nat) : List α → Nat
  | [] => 0
  | x :: r => wt x + lwt wt r
theorem bulkAll_append {H : Type} : ∀ (a b : List (DataW H)), Rows.uptoBulkAll (a ++ b) = Rows.uptoBulkAll a + Rows.uptoBulkAll b
  | [], b => by simp [Rows.uptoBulkAll]
  | x :: a, b => by simp only [List.cons_append, Rows.uptoBulkAll, bulkAll_append a b]; omega
theorem weightsAll_mem {H : Type} {t : TypeId} : ∀ {l : List (DataW H)} {x : DataW H}, x ∈ l → ∀ n ∈ DataW.weights Try.prog t x, n ∈ DataW.weightsAll Try.prog t l
  | y :: l, x, h, n, hn => by
    simp only [DataW.weightsAll, List.mem_append]
    rcases List.mem_cons.1 h with rfl | h
    · exact .inl hn
    · exact .inr (weightsAll_mem h n hn)

theorem lwt_le {α : Type} {H : Type} (wt : α → Nat) : ∀ (xs : List α) (ds : List (DataW H)), xs.length = ds.length → (∀ (i : Nat) (x : α) (d : DataW H), xs[i]? = some x → ds[i]? = some d → wt x ≤ Rows.uptoBulk d) → lwt wt xs ≤ Rows.uptoBulkAll ds
  | [], ds, _, _ => by simp [lwt]
  | x :: xs, [], h, _ => by simp at h
  | x :: xs, d :: ds, h, hp => by
    have h0 := hp 0 x d rfl rfl
    have h1 := lwt_le wt xs ds (by simpa using h) (fun i y e hy he => hp (i + 1) y e (by simpa using hy) (by simpa using he))
    simp only [lwt, Rows.uptoBulkAll]
    omega

theorem opens_slice {α : Type} {d : Kd α} {t e : TypeId} {ok : α → Prop} {wt : α → Nat} (B : Nat) (hu : Try.prog.underlying t = some (.slice e)) (hc : Try.prog.cellsOf t = 1) (hB : Try.prog.bytesOf e = B) (he : Opens d e ok wt) :
    Opens (Kd.slice e d) t (fun xs => xs.length * B ≤ 140737488351232 ∧ ∀ x ∈ xs, ok x) (fun xs => lwt wt xs + 1) := by
  refine ⟨hc, fun enc W base spare held fuel cs x h => ?_⟩
  rcases open_slice hu h with ⟨rfl, rfl⟩ | ⟨a, len, cap, m, n, D, Pl, rfl, hb, hl, hm, hmm, hx, hi⟩
  · exact ⟨[], ⟨none, 0, rfl, Nat.le_refl _, rfl, by simp, fun h => absurd h (Nat.lt_irrefl 0)⟩, fun _ => ⟨by simp, fun x hx => by cases hx⟩, by simp [lwt, Rows.uptoBulk]⟩
  · have hlm : len ≤ m := by rw [hmm]; split <;> omega
    have hel : ∀ i, i < len → ∃ v : α, (∃ cs', cs'.length = d.sz ∧ d.K W v cs' ∧ ∀ j u, cs'[j]? = some u → W.cell? (a.add (i * d.sz + j)) = some u) ∧ (Light e (D i) → ok v) ∧ wt v ≤ Rows.uptoBulk (D i) := by
      intro i hil
      obtain ⟨cs', hc', ht'⟩ := hi i (by omega)
      obtain ⟨v, hK, hok, hwt⟩ := he.2 enc W base spare held n cs' _ ht'
      rw [he.1] at hc'
      obtain ⟨_, hcl, hat⟩ := World.cells?_some hc'
      refine ⟨v, ⟨cs', hcl, hK, fun j u hu' => ?_⟩, hok, hwt⟩
      have hj : j < d.sz := by rw [← hcl]; exact (List.getElem?_eq_some_iff.1 hu').1
      have := hat j hj
      rw [← Go.Deep.add_add, this]
      exact hu'
    obtain ⟨xs, hxl, hP⟩ := list_of len hel
    have hxmap : x.1 = .slice ((List.range len).map D) ((List.range (m - len)).map fun j => D (len + j)) := by rw [hx]
    refine ⟨xs, ⟨some a, cap, by rw [hxl], by omega, rfl, by unfold maxLen at hm; omega, fun _ => ⟨a, rfl, fun j p hj => (hP j p hj).1⟩⟩, ?_, ?_⟩
    · intro hL
      rw [hxmap] at hL
      have hu2 := hu
      constructor
      · have := hL ((((List.range len).map D).length + ((List.range (m - len)).map fun j => D (len + j)).length) * Try.prog.bytesOf e) (by simp only [DataW.weights, hu2]; exact List.mem_cons_self)
        rw [hB, List.length_map, List.length_range] at this
        have h2 : xs.length * B ≤ (len + ((List.range (m - len)).map fun j => D (len + j)).length) * B := Nat.mul_le_mul_right _ (by rw [hxl]; omega)
        exact Nat.le_trans h2 this
      · intro y hy
        obtain ⟨i, hi', hye⟩ := List.getElem_of_mem hy
        have h3 := hP i y (by rw [List.getElem?_eq_getElem hi', hye])
        refine h3.2.1 fun k hk => hL k ?_
        simp only [DataW.weights, hu2, List.mem_cons, List.mem_append]
        exact .inr (.inl (weightsAll_mem (List.mem_map.2 ⟨i, List.mem_range.2 (by omega), rfl⟩) k hk))
    · rw [hxmap]
      simp only [Rows.uptoBulk]
      have h4 := lwt_le wt xs ((List.range len).map D) (by simp [hxl]) (fun i y e hy he' => by
        have h5 := (hP i y hy).2.2
        have hi' : i < len := by
          have := (List.getElem?_eq_some_iff.1 hy).1
          omega
        rw [List.getElem?_map, List.getElem?_range hi'] at he'
        simp at he'
        rw [← he']
        omega)
      omega

/-- The fields of a struct, from a place on. -/
def OpensF {α : Type} (d : Kd α) (fs : List Field) (off : Nat) (ok : α → Prop) (wt : α → Nat) : Prop :=
  ∀ {H : Type} (enc : TypeId × Value → H) (W : World) (base : Nat) (spare : Nat → Bool) (held : Bool) (fuel : Nat) (cs : List Value) (xs : List (DataW H × List MemPlace)),
    xs.length = fs.length → cs.length = off + d.sz → (∀ (i : Nat) (f : Field), fs[i]? = some f → DataW.trod enc Try.prog W base spare held fuel f.type ((cs.drop f.offset).take (Try.prog.cellsOf f.type)) = xs[i]?) →
    ∃ v : α, d.K W v (cs.drop off) ∧ ((∀ n ∈ DataW.weightsEach Try.prog (fs.map (·.type)) (xs.map (·.1)), n ≤ reachBytes) → ok v) ∧ wt v ≤ Rows.uptoBulkAll (xs.map (·.1))

theorem fields_one {α : Type} {d : Kd α} {f : Field} {off : Nat} {ok : α → Prop} {wt : α → Nat} (h : Opens d f.type ok wt) (ho : f.offset = off) : OpensF d [f] off ok wt := by
  intro H enc W base spare held fuel cs xs hl hcs hx
  match xs, hl with
  | [x], _ =>
    have h0 := hx 0 f rfl
    rw [ho, h.1, List.take_of_length_le (by rw [List.length_drop]; omega)] at h0
    obtain ⟨v, hK, hok, hwt⟩ := h.2 enc W base spare held fuel _ x h0
    refine ⟨v, hK, fun hL => hok fun n hn => hL n ?_, ?_⟩
    · simp only [List.map_cons, List.map_nil, DataW.weightsEach, List.append_nil]; exact hn
    · simp only [List.map_cons, List.map_nil, Rows.uptoBulkAll]; omega
theorem fields_cons {α β : Type} {d : Kd α} {d' : Kd β} {f : Field} {fs : List Field} {off : Nat} {ok : α → Prop} {wt : α → Nat} {ok' : β → Prop} {wt' : β → Nat} (h : Opens d f.type ok wt) (ho : f.offset = off) (h' : OpensF d' fs (off + d.sz) ok' wt') :
    OpensF (Kd.pair d d') (f :: fs) off (fun x => ok x.1 ∧ ok' x.2) (fun x => wt x.1 + wt' x.2) := by
  intro H enc W base spare held fuel cs xs hl hcs hx
  match xs, hl with
  | x :: xs, hl =>
    have h0 := hx 0 f rfl
    rw [ho, h.1] at h0
    obtain ⟨v, hK, hok, hwt⟩ := h.2 enc W base spare held fuel _ x h0
    obtain ⟨v', hK', hok', hwt'⟩ := h' enc W base spare held fuel cs xs (by simpa using hl) (by rw [hcs]; show off + (d.sz + d'.sz) = _; omega) (fun i g hg => by have := hx (i + 1) g (by simpa using hg); simpa using this)
    refine ⟨(v, v'), ⟨(cs.drop off).take d.sz, cs.drop (off + d.sz), ?_, hK, hK'⟩, fun hL => ⟨hok fun n hn => hL n ?_, hok' fun n hn => hL n ?_⟩, ?_⟩
    · rw [← List.drop_drop, List.take_append_drop]
    · simp only [List.map_cons, DataW.weightsEach, List.mem_append]; exact .inl hn
    · simp only [List.map_cons, DataW.weightsEach, List.mem_append]; exact .inr hn
    · simp only [List.map_cons, Rows.uptoBulkAll]; omega

theorem opens_struct {α β : Type} {d : Kd α} {t : TypeId} {fs : Array Field} {ok : α → Prop} {wt : α → Nat} (f : β → α) (g : α → β) (hfg : ∀ x, f (g x) = x) (hu : Try.prog.underlying t = some (.struct fs)) (hc : Try.prog.cellsOf t = d.sz) (h : OpensF d fs.toList 0 ok wt) :
    Opens (Kd.iso d f) t (fun x => ok (f x)) (fun x => wt (f x) + 1) := by
  refine ⟨hc, fun enc W base spare held fuel cs x ht => ?_⟩
  obtain ⟨xs, n, rfl, rfl, hl, hxl, hx⟩ := DataW.trod_struct hu ht
  obtain ⟨v, hK, hok, hwt⟩ := h enc W base spare held n cs xs (by simpa using hxl) (by rw [hl, hc]; omega) (fun i f' hf => hx i f' (by simpa using hf))
  refine ⟨g v, ?_, fun hL => ?_, ?_⟩
  · show d.K W (f (g v)) cs
    rw [hfg]
    simpa using hK
  · show ok (f (g v))
    rw [hfg]
    refine hok fun k hk => hL k ?_
    simp only [DataW.weights, hu]
    exact hk
  · show wt (f (g v)) + 1 ≤ _
    rw [hfg]
    simp only [Rows.uptoBulk]
    omega

/-- An argument, opened. -/
theorem Opens.arg {α : Type} {d : Kd α} {t : TypeId} {ok : α → Prop} {wt : α → Nat} (h : Opens d t ok wt) {H : Type} {enc : TypeId × Value → H} {W : World} {base : Nat} {spare : Nat → Bool} {held : Bool} {v : Value} {x : DataW H} {ps : List MemPlace}
    (ht : DataW.Trod enc Try.prog W base spare held t v x ps) : ∃ y : α, d.K W y v.cells.toList ∧ (Light t x → ok y) ∧ wt y ≤ Rows.uptoBulk x := by
  obtain ⟨fuel, hf⟩ := ht
  obtain ⟨y, h1, h2, h3⟩ := h.2 enc W base spare held fuel _ _ hf
  exact ⟨y, h1, h2, h3⟩
theorem light_of {H : Type} {ts : List TypeId} {ds : List (DataW H)} (h : (DataW.weightsEach Try.prog ts ds).all (· ≤ reachBytes) = true) (j : Nat) (t : TypeId) (d : DataW H) (ht : ts[j]? = some t) (hd : ds[j]? = some d) : Light t d :=
  fun n hn => of_decide_eq_true (List.all_eq_true.1 h n (DataW.weights_mem_each ht hd n hn))
end Go.Proofs.Ytamhecmopnekjaa.Opn
