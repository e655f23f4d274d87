/- vfs: turns. -/
import Derived.Test.YtamhecmopnekjaaVfDD
import Derived.RegionTactic
import Derived.Deep.RegionLaw
namespace Go.Proofs.Ytamhecmopnekjaa.Vf
open Go Go.RowKit Go.Maps Go.Proofs.Ytamhecmopnekjaa Go.Proofs.YtamhecmopnekjaaW.PrintWords
set_option linter.unusedVariables false
set_option linter.unusedSimpArgs false

def turnCells (t : Turn) : Array Value := #[.int .i64 t.op, .string t.name, .string t.dest, ptrV t.f]
theorem infoTurn : (Try.prog.info? TTurn).map (fun i => (i.zero, i.size, i.bytes)) = some (some (.agg #[.int .i64 0, .string ⟨#[]⟩, .string ⟨#[]⟩, .pointer none]), kTurn.sz, 48) := by kernel_rfl
theorem turn_M (w : World) (base : Nat) (t : Turn) : kTurn.M w base (fun _ => False) t [.int .i64 t.op, .string t.name, .string t.dest, ptrV t.f] := ⟨[_], [_, _, _], rfl, rfl, [_], [_, _], rfl, rfl, [_], [_], rfl, rfl, rfl⟩
set_option maxHeartbeats 4000000 in
set_option maxRecDepth 100000 in
theorem turns1_any (w0 : World) (g : Nat) (S : St) (t : Turn) (bf bt : Nat) (w : World) (h : FsB w0 g S w) (hbf : w.heap[bf]? = some (.cells #[.pointer (some ⟨g, 0, none⟩)] 27 (0, 0))) (hbt : w.heap[bt]? = some (.cells (turnCells t) TTurn (0, 0))) (hpv : S.pv.ownBlock ≠ some bt) (ht : TurnOk t S.fb) (hs : Maps.size S.seen < maxLen) (hp : (S.pend.length + 1) * 48 ≤ 140737488355328) :
    Calls Try.prog 52 #[.pointer (some ⟨bf, 0, none⟩), .pointer (some ⟨bt, 0, none⟩)] w fun e w' => e = .returned (.tuple #[]) ∧ ∃ pv', FsB w0 g { S with pv := pv', pend := S.pend ++ [t], seen := onD t S.seen } w' ∧ KeptT w w' := by
  have hu := Try.underlying73
  have hut := Try.underlying80
  have HF := Aside0.mk h
  have f0 : w.cell? ⟨bf, 0, none⟩ = some (.pointer (some ⟨g, 0, none⟩)) := (blk_cell hbf 0).trans rfl
  have t0 : w.cell? ⟨bt, 0, none⟩ = some (.int .i64 t.op) := (blk_cell hbt 0).trans rfl
  have t1 : w.cell? ⟨bt, 1, none⟩ = some (.string t.name) := (blk_cell hbt 1).trans rfl
  have t2 : w.cell? ⟨bt, 2, none⟩ = some (.string t.dest) := (blk_cell hbt 2).trans rfl
  have t3 : w.cell? ⟨bt, 3, none⟩ = some (ptrV t.f) := (blk_cell hbt 3).trans rfl
  have c3 : w.cell? ⟨g, 3, none⟩ = some S.pv := h.cell 3 _ rfl
  have q3 := blk_frozen h.fs 3
  have hal : ∀ (b : Nat) (o o' : Obj), w.heap[b]? = some o → (w.alloc o').heap[b]? = some o := fun b o o' hh => (Go.heap_alloc_old w o' (blk_lt hh)).trans hh
  have c3' : (w.alloc (.cells #[.int .i64 t.op, .string t.name, .string t.dest, ptrV t.f] TTurn)).cell? ⟨g, 3, none⟩ = some S.pv := (blk_cell (hal _ _ _ h.fs) 3).trans rfl
  have f0' : (w.alloc (.cells #[.int .i64 t.op, .string t.name, .string t.dest, ptrV t.f] TTurn)).cell? ⟨bf, 0, none⟩ = some (.pointer (some ⟨g, 0, none⟩)) := (blk_cell (hal _ _ _ hbf) 0).trans rfl
  obtain ⟨A, cap, hpf, hle, hC⟩ := Kd.R_reads h.pe
  have Hpf := Aside0.mk hpf
  have Hbf := Aside0.mk hbf
  have Hbt := Aside0.mk hbt
  have Hpv := Aside0.mk hpv
  have Ht := Aside0.mk ht
  have Hs := Aside0.mk hs
  have Hp := Aside0.mk hp
  have HLn := Aside0.mk (show (S.pend ++ [t]).length = S.pend.length + 1 from by simp)
  have Hst := Aside0.mk (show ∀ w1, w.drew.grownBy w1 S.pv.ownBlock → w1.heap[g]? = some (.cells S.cells TFS (0, 0)) from fun w1 hg => blk_grown (w := w.drew) HF.out.drew.fs hg (Kd.R_ne HF.out.drew.pe HF.out.drew.fs (by decide)))
  have Hsf := Aside0.mk (show ∀ w1, w.drew.grownBy w1 S.pv.ownBlock → w1.heap[bf]? = some (.cells #[.pointer (some ⟨g, 0, none⟩)] 27 (0, 0)) from fun w1 hg => blk_grown (w := w.drew) (show w.drew.heap[bf]? = _ from hbf) hg (Kd.R_ne HF.out.drew.pe (show w.drew.heap[bf]? = _ from hbf) (by decide)))
  have Hsb := Aside0.mk (show ∀ w1, w.drew.grownBy w1 S.pv.ownBlock → w1.heap[bt]? = some (.cells (turnCells t) TTurn (0, 0)) from fun w1 hg => blk_grown (w := w.drew) (show w.drew.heap[bt]? = _ from hbt) hg (fun e => hpv e.symm))
  clear h hbf hbt hpv ht hs hp hC hle hpf hal
  go_enter Try.func52, Try.ntmps52
  have HZ := Aside0.mk (show ∀ A1 cp1 w1, kTurn.R TTurn w1 w0.heap.size (fun _ => True) (.slice A1 (S.pend.length + 1) cp1) (S.pend ++ [t]) → Below w0.heap.size w0 w1 → w.drew.grownBy w1 S.pv.ownBlock →
      FsB w0 g { S with pv := .slice A1 (S.pend.length + 1) cp1, pend := S.pend ++ [t] } (w1.setCell ⟨g, 3, none⟩ (.slice A1 (S.pend.length + 1) cp1)) ∧ KeptT w (w1.setCell ⟨g, 3, none⟩ (.slice A1 (S.pend.length + 1) cp1)) ∧
      (w1.setCell ⟨g, 3, none⟩ (.slice A1 (S.pend.length + 1) cp1)).heap[bf]? = some (.cells #[.pointer (some ⟨g, 0, none⟩)] 27 (0, 0)) ∧ (w1.setCell ⟨g, 3, none⟩ (.slice A1 (S.pend.length + 1) cp1)).heap[bt]? = some (.cells (turnCells t) TTurn (0, 0)) from fun A1 cp1 w1 ho hb hg => by
    have hr1 := (FsR.pend HF.out.drew.rest Ht.out ho hb hg)
    have hr2 := hr1.own (grown_set w1 g 3 (.slice A1 (S.pend.length + 1) cp1)) (Hst.out w1 hg) HF.out.gB
    have hwr : Wr w.drew w1 (fun t => t = TFS ∨ t = TTurn) (fun _ => False) := by
      cases hob : S.pv.ownBlock with
      | none => rw [hob] at hg; exact Wr.of_none hg
      | some k =>
        rw [hob] at hg
        obtain ⟨inner, hown⟩ := Kd.R_own HF.out.drew.pe
        obtain ⟨cells, hc⟩ := own_typed hown k hob
        exact Wr.of_cells hg hc (.inr rfl)
    have hwr2 : Wr w1 (w1.setCell ⟨g, 3, none⟩ (.slice A1 (S.pend.length + 1) cp1)) (fun t => t = TFS ∨ t = TTurn) (fun _ => False) := Wr.of_cells (grown_set _ _ _ _) (Hst.out w1 hg) (.inl rfl)
    refine ⟨hr2.full HF.out.gB (blk_put (Hst.out w1 hg) 3 _ rfl), (hwr.trans hwr2).kept (fun t h => h.elim .inl (fun h => .inr (.inr h))), ?_, ?_⟩
    · exact ((grown_set w1 g 3 _).block bf (blk_lt (Hsf.out w1 hg)) (fun e => by
        injection e with e
        exact blk_ne (Hsf.out w1 hg) (Hst.out w1 hg) (by decide) e)).trans (Hsf.out w1 hg)
    · exact ((grown_set w1 g 3 _).block bt (blk_lt (Hsb.out w1 hg)) (fun e => by
        injection e with e
        exact blk_ne (Hsb.out w1 hg) (Hst.out w1 hg) (by decide) e)).trans (Hsb.out w1 hg))
  go_wp2
  refine Code.wp_mono (Q := fun e a' w' => match e with | .normal => ∃ A1 cp1, a' = { tmps := #[.pointer (some ⟨bf, 0, none⟩), .pointer (some ⟨bt, 0, none⟩), .pointer (some ⟨g, 0, none⟩), .pointer (some ⟨g, 0, none⟩), .pointer (some ⟨g, 0, none⟩), .pointer (some ⟨g, 3, none⟩), S.pv, .agg #[.int .i64 t.op, .string t.name, .string t.dest, ptrV t.f], .slice (some ⟨w.heap.size, 0, none⟩) 1 1, .slice A1 (S.pend.length + 1) cp1, .pointer (some ⟨g, 0, none⟩), .pointer (some ⟨g, 3, none⟩), undef, undef, undef, undef, undef, undef], defers := [] } ∧
    (FsB w0 g { S with pv := .slice A1 (S.pend.length + 1) cp1, pend := S.pend ++ [t] } w' ∧ KeptT w w' ∧ w'.heap[bf]? = some (.cells #[.pointer (some ⟨g, 0, none⟩)] 27 (0, 0)) ∧ w'.heap[bt]? = some (.cells (turnCells t) TTurn (0, 0))) | _ => False) ?after ?_
  case after =>
    intro e a' w' hq
    cases e <;> try exact hq.elim
    obtain ⟨A1, cp1, rfl, hf, hk, hbf, hbt⟩ := hq
    have HF2 := Aside0.mk hf
    have HK2 := Aside0.mk hk
    have Hbt2 := Aside0.mk hbt
    have Hbf2 := Aside0.mk hbf
    have g0 : w'.cell? ⟨bf, 0, none⟩ = some (.pointer (some ⟨g, 0, none⟩)) := (blk_cell hbf 0).trans rfl
    have u0 : w'.cell? ⟨bt, 0, none⟩ = some (.int .i64 t.op) := (blk_cell hbt 0).trans rfl
    have u1 : w'.cell? ⟨bt, 1, none⟩ = some (.string t.name) := (blk_cell hbt 1).trans rfl
    have u2 : w'.cell? ⟨bt, 2, none⟩ = some (.string t.dest) := (blk_cell hbt 2).trans rfl
    have u3 : w'.cell? ⟨bt, 3, none⟩ = some (ptrV t.f) := (blk_cell hbt 3).trans rfl
    have s1 : w'.cell? ⟨g, 1, none⟩ = some (.map (some S.bs)) := hf.cell 1 _ rfl
    have HON := Aside0.mk (fun w1 : World => fun (hb : Below w'.heap.size w' w1) => on_any t S.bs _ S.seen S.fb w1 (hf.below hb).se hf.sn Ht.out Hs.out)
    clear hf hk hbf hbt
    have hb1 : Below w'.heap.size w' w'.drew := below_drew1 (Below.refl _ _)
    have HON1 := Aside0.mk (HON.out _ hb1)
    have hkb : ∀ (b : Nat) (cs : Array Value) (T : TypeId), w'.heap[b]? = some (.cells cs T (0, 0)) → ∀ wx, w'.drew.grownBy wx (some S.bs) → ∀ i v, cs[i]? = some v → wx.cell? ⟨b, i, none⟩ = some v := fun b cs T hb wx hg i v hv => by
      have hne : some b ≠ some S.bs := fun e => by
        injection e with e
        obtain ⟨es, clock, h1, _⟩ := HF2.out.se
        rw [← e] at h1
        have h1' : w'.heap[b]? = some (.map es clock) := h1
        rw [hb] at h1'
        cases h1'
      exact (blk_cell ((hg.block b (blk_lt hb) hne).trans hb) i).trans hv
    have Hk1 := Aside0.mk (hkb _ _ _ Hbf2.out)
    have Hk2 := Aside0.mk (hkb _ _ _ Hbt2.out)
    have Hk3 := Aside0.mk (hkb _ _ _ HF2.out.fs)
    clear hkb
    clear hb1
    go_wp2
    go_region_held3 (fun w2 => w2.cell? ⟨bf, 0, none⟩ = some (.pointer (some ⟨g, 0, none⟩)) ∧ w2.cell? ⟨bt, 0, none⟩ = some (.int .i64 t.op) ∧ w2.cell? ⟨bt, 1, none⟩ = some (.string t.name) ∧ w2.cell? ⟨bt, 2, none⟩ = some (.string t.dest) ∧ w2.cell? ⟨bt, 3, none⟩ = some (ptrV t.f) ∧ w2.cell? ⟨g, 1, none⟩ = some (.map (some S.bs))) (first | exact ⟨g0, u0, u1, u2, u3, s1⟩ | exact ⟨x0, x1, x2, x3, x4, x5⟩ | go_keep) ((go_at_call 45; refine (HON1.out).mono ?_; rintro e wx ⟨rfl, ho, hg⟩; have x0 := Hk1.out wx hg 0 _ rfl; have x1 := Hk2.out wx hg 0 _ rfl; have x2 := Hk2.out wx hg 1 _ rfl; have x3 := Hk2.out wx hg 2 _ rfl; have x4 := Hk2.out wx hg 3 _ rfl; have x5 := Hk3.out wx hg 1 _ rfl; have HO := Aside0.mk ho; have HG := Aside0.mk hg; clear ho hg))
    go_wp2
    go_end0
    have hr := HF2.out.drew.rest.seen (D := onD t S.seen) HO.out (named_on HF2.out.sn HF2.out.se.isMap Ht.out) HG.out
    have hgb : some g ≠ some S.bs := fun e => by
      injection e with e
      obtain ⟨es, clock, h1, _⟩ := HF2.out.se
      rw [← e] at h1
      have h2 := h1.symm.trans HF2.out.fs
      cases h2
    exact ⟨rfl, _, hr.full HF.out.gB ((HG.out.block g (blk_lt HF2.out.drew.fs) hgb).trans HF2.out.fs), (HK2.out.trans (KeptT.of_below (below_drew1 (Below.refl _ _)))).trans (KeptT.map HG.out HF2.out.drew.se)⟩
  go_region_law (refine Kd.R_append_step kTurn (w0 := w0) w0.heap.size rfl (.tmp 6) (.tmp 8) 71 TTurn _ 48 rfl Try.underlying71 infoTurn rfl (Nat.succ_pos 3) (by decide) S.pv S.pend t [.int .i64 t.op, .string t.name, .string t.dest, ptrV t.f] (fun _ => True) (fun _ => False) rfl rfl (turn_M _ _ t) (fun _ hk => hk.elim) (fun _ _ => trivial) HF.out.drew.pe HF.out.drew.be HF.out.drew.be.size Hp.out ?_; intro v1 w1 ho hb hg ha; obtain ⟨A1, cp1, rfl, _, _⟩ := Kd.R_reads ho; have HO := Aside0.mk (show kTurn.R TTurn w1 w0.heap.size (fun _ => True) (.slice A1 (S.pend.length + 1) cp1) (S.pend ++ [t]) by rw [← HLn.out]; exact ho); have HB := Aside0.mk hb; have HG := Aside0.mk hg; have k3 : w1.cell? ⟨g, 3, none⟩ = some S.pv := (blk_cell (Hst.out w1 hg) 3).trans rfl; have l3 := blk_frozen (Hst.out w1 hg) 3; have k0 : w1.cell? ⟨bf, 0, none⟩ = some (.pointer (some ⟨g, 0, none⟩)) := (blk_cell (Hsf.out w1 hg) 0).trans rfl; clear ho hb hg ha)
  all_goals exact ⟨_, _, rfl, HZ.out _ _ _ HO.out HB.out HG.out⟩
end Go.Proofs.Ytamhecmopnekjaa.Vf
