/- VfsTwice: its walk. -/
import Derived.Test.YtamhecmopnekjaaVfP
import Derived.Test.YtamhecmopnekjaaVfH
import Derived.Test.YtamhecmopnekjaaVfHH
namespace Go.Proofs.Ytamhecmopnekjaa.Vf
open Go Go.RowKit Go.Maps Go.Proofs.Ytamhecmopnekjaa Go.Proofs.YtamhecmopnekjaaW.PrintWords
set_option linter.unusedVariables false
set_option linter.unusedSimpArgs false

/-- A file system behind a crash. -/
structure Calm (N : Nat) (S : St) : Prop where
  ok : FilesOk S
  sm : Small S N
  pend : S.pend = []
  lasts : S.lasts = S.seen
  still : ∀ j, j < (names S.seen).length → (S.fl (blk S.seen j)).synced = (S.fl (blk S.seen j)).bytes.length
theorem blk_mem {w : World} {b n : Nat} {D : Dt} {fb : List Nat} (how : w.ownsMap Try.prog 9 rdF b n D) (hN : Named D fb) (j : Nat) (hj : j < (names D).length) : blk D j ∈ fb := by
  have hm : (names D)[j] ∈ names D := List.getElem_mem hj
  obtain ⟨f, hf⟩ := Option.isSome_iff_exists.1 ((names_mem how hN _).1 hm)
  unfold blk
  rw [List.getD_eq_getElem?_getD, List.getElem?_eq_getElem hj]
  show (look D (names D)[j]).getD 0 ∈ fb
  rw [hf]
  exact (look_mem hN hf).1
theorem bad_false {S : St} {dir : Int} {ks : List Int} (h : crashBad S dir ks = false) : 0 ≤ dir ∧ dir ≤ S.pend.length ∧ ∀ k ∈ ks, 0 ≤ k := by
  unfold crashBad at h
  rw [Bool.or_eq_false_iff, Bool.or_eq_false_iff] at h
  obtain ⟨⟨h1, h2⟩, h3⟩ := h
  refine ⟨by have := of_decide_eq_false h1; omega, by have := of_decide_eq_false h2; omega, fun k hk => ?_⟩
  have h4 := (List.any_eq_false.1 h3) k hk
  have h5 : ¬ k < 0 := fun h => h4 (decide_eq_true h)
  omega
theorem size_play {fb : List Nat} : ∀ (ts : List Turn) (D : Dt), Tidy D → Maps.size (playD ts D) ≤ Maps.size D + ts.length
  | [], D, _ => Nat.le_refl _
  | t :: ts, D, hT => by
    have h1 := size_on t hT
    have hT2 : Tidy (onD t D) := by
      unfold onD
      split
      · exact hT.put (key_lit _) _
      · split
        · exact hT.del _
        · split
          · split
            · split
              · exact hT
              · exact (hT.del _).put (key_lit _) _
            · exact hT
          · exact hT
    have h2 := size_play (fb := fb) ts (onD t D) hT2
    show Maps.size (playD ts (onD t D)) ≤ _
    rw [List.length_cons]
    omega
/-- What a crash leaves is calm. -/
theorem calm_crash {w0 w w' : World} {g N : Nat} {S : St} {dir : Int} {ks : List Int} {bs bn : Nat} (h : FsB w0 g S w) (hs : Small S N) (hF : FilesOk S) (hb : crashBad S dir ks = false) (h' : FsB w0 g (crashS S dir.toNat ks bs bn) w') : Calm N (crashS S dir.toNat ks bs bn) := by
  obtain ⟨h1, h2, h3⟩ := bad_false hb
  have hD : Maps.size (playD (S.pend.take dir.toNat) S.lasts) ≤ N := by
    have := size_play (fb := S.fb) (S.pend.take dir.toNat) S.lasts (h.la.tidy keyed9)
    have h4 := hs.la
    rw [List.length_take] at this
    omega
  have hbm : ∀ j, j < (names (playD (S.pend.take dir.toNat) S.lasts)).length → blk (playD (S.pend.take dir.toNat) S.lasts) j ∈ S.fb := fun j hj => blk_mem h'.se h'.sn j hj
  have hc := cut_crash (playD (S.pend.take dir.toNat) S.lasts) ks S.fl S.fb hF.fs h3 hbm _ (Nat.le_refl _)
  refine ⟨⟨hF.cap, fok_crash hF.fs h3 hbm _ (Nat.le_refl _)⟩, ⟨hD, hD, hs.le⟩, rfl, rfl, fun j hj => hc.2 j hj⟩
/-- A crash of a calm file system changes no file. -/
theorem files_still {N : Nat} {S : St} {dir : Int} {ks : List Int} {bs bn : Nat} (h : Calm N S) (hb : crashBad S dir ks = false) : files (crashS S dir.toNat ks bs bn) = files S := by
  obtain ⟨h1, h2, h3⟩ := bad_false hb
  have hD : playD (S.pend.take dir.toNat) S.lasts = S.seen := by rw [h.pend, h.lasts, List.take_nil]; rfl
  have hfl : crashFl (playD (S.pend.take dir.toNat) S.lasts) ks S.fl (names (playD (S.pend.take dir.toNat) S.lasts)).length = S.fl := by
    rw [hD]
    exact crashFl_still S.seen ks S.fl h3 h.still _ (Nat.le_refl _)
  unfold files fileX crashS
  simp only [hD]
  rw [hD] at hfl
  simp only [hfl]
/-- The base world's own block is written. -/
theorem FsB.rebase {w0 w : World} {g : Nat} {S : St} (h : FsB w0 g S w) {p i : Nat} (hp : p < w0.heap.size) (v : Value) : FsB (w0.setCell ⟨p, i, none⟩ v) g S (w.setCell ⟨p, i, none⟩ v) := by
  have hs0 : (w0.setCell ⟨p, i, none⟩ v).heap.size = w0.heap.size := by simp [World.setCell]
  have hgr := grown_set w p i v
  have hk : ∀ k, w0.heap.size ≤ k → k < w.heap.size → (w.setCell ⟨p, i, none⟩ v).heap[k]? = w.heap[k]? := fun k hk hlt => hgr.block k hlt (fun e => by injection e with e; omega)
  have hmap : ∀ {H : Type} {kt : TypeId} {R : Value → Option (DataW H × List MemPlace)} {b n : Nat} {D : DataW H}, w.ownsMap Try.prog kt R b n D → w0.heap.size ≤ b → (w.setCell ⟨p, i, none⟩ v).ownsMap Try.prog kt R b n D := fun {H kt R b n D} ho hb => by
    have hlt := ho.lt
    obtain ⟨es, c, h1, h2, h3, h4⟩ := ho
    exact ⟨es, c, (hk b hb hlt).trans h1, h2, h3, h4⟩
  exact {
    be := ⟨h.be.os, h.be.tape, h.be.output, by simpa [World.setCell] using h.be.size, fun k hk' => by
      by_cases e : k = p
      · subst e
        have h1 := h.be.block k (by omega)
        show (w.heap.modify k _)[k]? = (w0.heap.modify k _)[k]?
        rw [Array.getElem?_modify, Array.getElem?_modify, if_pos rfl, if_pos rfl, h1]
      · rw [Below.heap_setCell w ⟨p, i, none⟩ v k e, Below.heap_setCell w0 ⟨p, i, none⟩ v k e]
        exact h.be.block k (by rw [hs0] at hk'; exact hk')⟩
    gB := by rw [hs0]; exact h.gB
    fs := (hk g h.gB (blk_lt h.fs)).trans h.fs
    se := hmap h.se h.bB.1
    la := hmap h.la h.bB.2.1
    nt := hmap h.nt h.bB.2.2
    bB := by rw [hs0]; exact h.bB
    ne := h.ne
    pe := by
      rw [hs0]
      refine Kd.R_mono (Kd.R_move (Kd.R_bound h.pe) (fun k hk' => hk k hk'.2.1 hk'.2.2.1)) (fun _ _ => trivial)
    fa := by
      rw [hs0]
      refine Kd.R_mono (Kd.R_move (Kd.R_bound h.fa) (fun k hk' => hk k hk'.2.1 hk'.2.2.1)) (fun _ _ => trivial)
    fi := fun b hb => by
      rw [hs0]
      obtain ⟨v', h1, h2⟩ := (h.fi b hb).cs
      exact ⟨(h.fi b hb).ge, v', (hk b (h.fi b hb).ge (blk_lt h1)).trans h1, h2.kept (fun k cur fz hB hh => hk k hB (blk_lt hh))⟩
    sn := h.sn
    ln := h.ln
    pn := h.pn
    nb := h.nb }
/-- A crash, and where it is refused the plain one: what both come to. -/
theorem bad_plain (S : St) : crashBad S 0 [] = false := by
  unfold crashBad below0
  simp
/-- What one of the crashes leaves. -/
def Crashed (S S' : St) : Prop := ∃ dir ks bs bn, crashBad S dir ks = false ∧ S' = crashS S dir.toNat ks bs bn
theorem Crashed.calm {w0 w w' : World} {g N : Nat} {S S' : St} (h : Crashed S S') (hf : FsB w0 g S w) (hs : Small S N) (hF : FilesOk S) (hf' : FsB w0 g S' w') : Calm N S' := by
  obtain ⟨dir, ks, bs, bn, hb, rfl⟩ := h
  exact calm_crash hf hs hF hb hf'
theorem Crashed.still {N : Nat} {S S' : St} (h : Crashed S S') (hc : Calm N S) : files S' = files S := by
  obtain ⟨dir, ks, bs, bn, hb, rfl⟩ := h
  exact files_still hc hb
/-- A crash that may be refused. -/
theorem crash_x {w0 : World} {g N : Nat} {S : St} {dir : Int} {A : Option Addr} {c : Nat} {ks : List Int} {w : World} (h : FsB w0 g S w) (hN : Small S N) (hF : FilesOk S) (hK : ∀ w', Below w0.heap.size w0 w' → KeptT w w' → ReadsInt w' .i64 A ks.length ks) (hkc : ks.length ≤ c) :
    Calls Try.prog 16 #[.pointer (some ⟨g, 0, none⟩), .agg #[.int .i64 dir, .slice A ks.length c]] w fun e w' => KeptT w w' ∧
      ((e = .returned (.int .i64 1) ∧ FsB w0 g S w') ∨ (e = .returned (.int .i64 0) ∧ ∃ S', FsB w0 g S' w' ∧ Crashed S S')) := by
  refine (crash_any w0 g S N dir A c ks w h hN hF hK hkc).mono ?_
  rintro e w' ⟨hk, ⟨hb, he, hf⟩ | ⟨hb, he, bs, bn, hf⟩⟩
  · exact ⟨hk, .inl ⟨he, hf⟩⟩
  · exact ⟨hk, .inr ⟨he, _, hf, dir, ks, bs, bn, hb, rfl⟩⟩
/-- The crash that is never refused. -/
theorem crash_plain {w0 : World} {g N : Nat} {S : St} {w : World} (h : FsB w0 g S w) (hN : Small S N) (hF : FilesOk S) :
    Calls Try.prog 16 #[.pointer (some ⟨g, 0, none⟩), .agg #[.int .i64 0, .slice none 0 0]] w fun e w' => KeptT w w' ∧ e = .returned (.int .i64 0) ∧ ∃ S', FsB w0 g S' w' ∧ Crashed S S' := by
  refine (crash_any w0 g S N 0 none 0 [] w h hN hF (fun w' _ _ => ⟨rfl, by decide, fun h => absurd h (Nat.lt_irrefl 0)⟩) (Nat.le_refl _)).mono ?_
  rintro e w' ⟨hk, ⟨hb, _⟩ | ⟨hb, he, bs, bn, hf⟩⟩
  · rw [bad_plain] at hb; cases hb
  · exact ⟨hk, he, _, hf, 0, [], bs, bn, hb, rfl⟩
theorem files_kept {w w' : World} {base : Nat} {v : Value} {xs : List SF} (hk : KeptT w w') (h : kF.R TF w base (fun _ => True) v xs) : kF.R TF w' base (fun _ => True) v xs := R_kept hk h (by decide)
theorem files_len (S : St) : (files S).length = Maps.size S.seen := by unfold files; rw [List.length_map, names_len]
theorem files_le {w0 w : World} {g : Nat} {S : St} (h : FsB w0 g S w) (hF : FilesOk S) : ∀ x ∈ files S, x.f1.length ≤ 1048576 := by
  intro x hx
  unfold files at hx
  obtain ⟨s, hs, rfl⟩ := List.mem_map.1 hx
  obtain ⟨f, hf⟩ := Option.isSome_iff_exists.1 ((names_mem h.se h.sn s).1 hs)
  have hm := (look_mem h.sn hf).1
  show (nb (S.fl ((look S.seen s).getD 0)).bytes).length ≤ _
  rw [hf]
  unfold nb
  rw [List.length_map]
  exact (hF.fs f hm).1
/-- A row's block that is older than the row is written. -/
theorem files_set {w : World} {base p i : Nat} {v u : Value} {xs : List SF} (h : kF.R TF w base (fun _ => True) v xs) (hp : p < base) : kF.R TF (w.setCell ⟨p, i, none⟩ u) base (fun _ => True) v xs := by
  refine Kd.R_mono (Kd.R_move (Kd.R_bound h) (fun k hk => ?_)) (fun _ _ => trivial)
  exact (grown_set w p i u).block k hk.2.2.1 (fun e => by injection e with e; have := hk.2.1; omega)
/-- The crash's own box is written. -/
theorem box_set {w w1 w5 : World} {g p : Nat} {S : St} {d : Int} {v : Value} (hp : p < w1.heap.size) (hwp : w.heap.size ≤ p) (hB : Below w.heap.size w w1) (h : FsB w1 g S w5) (hx : w5.heap[p]? = some (.cells #[.int .i64 d, v] 25 (0, 0))) :
    w5.cell? ⟨p, 0, none⟩ = some (.int .i64 d) ∧ w5.frozen? ⟨p, 0, none⟩ = false ∧ Below w.heap.size w (w1.setCell ⟨p, 0, none⟩ (.int .i64 0)) ∧ FsB (w1.setCell ⟨p, 0, none⟩ (.int .i64 0)) g S (w5.setCell ⟨p, 0, none⟩ (.int .i64 0)) ∧
    (w5.setCell ⟨p, 0, none⟩ (.int .i64 0)).cell? ⟨p, 0, none⟩ = some (.int .i64 0) ∧ (w5.setCell ⟨p, 0, none⟩ (.int .i64 0)).cell? ⟨p, 1, none⟩ = some v := by
  have f1 := blk_put hx 0 (.int .i64 0) rfl
  exact ⟨(blk_cell hx 0).trans rfl, blk_frozen hx 0, Below.setCell hB hwp _, h.rebase hp _, (blk_cell f1 0).trans rfl, (blk_cell f1 1).trans rfl⟩
theorem box_kept {w w' : World} {k : Nat} {cs : Array Value} (hk : KeptT w w') (h : w.heap[k]? = some (.cells cs 25 (0, 0))) : w'.heap[k]? = some (.cells cs 25 (0, 0)) := hk.2 _ _ _ _ h (by decide) (by decide) (by decide)
/-! ### Arguments as a row hands them -/
abbrev SCrash : Type := Ty.S25
abbrev kCrash : Kd SCrash := Ty.k25
def okC (x : SCrash) : Prop := ((Lit.int .i64 x.f0).wf = true) ∧ (x.f1.length * 8 ≤ 140737488351232 ∧ ∀ e ∈ x.f1, (Lit.int .i64 e).wf = true)
def okFt (x : SFault) : Prop := ((Lit.int .i64 x.f0).wf = true) ∧ ((Lit.int .i64 x.f1).wf = true) ∧ ((Lit.int .i64 x.f2).wf = true)
def okO (x : SOp) : Prop := ((Lit.int .i64 x.f0).wf = true) ∧ (x.f1.size ≤ 140737488351232) ∧ (x.f2.size ≤ 140737488351232) ∧ ((Lit.int .i64 x.f3).wf = true) ∧ ((Lit.int .i64 x.f4).wf = true) ∧ (x.f5.length * 1 ≤ 140737488351232 ∧ ∀ e ∈ x.f5, (Lit.int .u8 e).wf = true) ∧ (x.f6.length * 24 ≤ 140737488351232 ∧ ∀ e ∈ x.f6, okFt e) ∧ (okC x.f7)
theorem opOk_of {xs : List SOp} (h : ∀ e ∈ xs, okO e) : ∀ x ∈ xs, OpOk x := fun x hx => by
  obtain ⟨_, h1, h2, _, _, ⟨h5, h5'⟩, ⟨_, h6⟩, _⟩ := h x hx
  exact ⟨h1, h2, by omega, h5', fun e he => ⟨(h6 e he).1, (h6 e he).2.1⟩⟩
theorem crash_open {w : World} {y : SCrash} {cs : Array Value} (h : kCrash.K w y cs.toList) : ∃ A c, cs = #[.int .i64 y.f0, .slice A y.f1.length c] ∧ Kd.C (Kd.int .i64) w A y.f1.length y.f1 ∧ y.f1.length ≤ c := by
  obtain ⟨A1, c1, e, h1, h2⟩ := Ty.k25_open h
  refine ⟨A1, c1, Array.toList_inj.1 e, ?_, ?_⟩ <;> assumption
end Go.Proofs.Ytamhecmopnekjaa.Vf
