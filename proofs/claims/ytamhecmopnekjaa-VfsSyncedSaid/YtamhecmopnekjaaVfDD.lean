/- vfs: does. -/
import Derived.Test.YtamhecmopnekjaaVfC
import Derived.Test.YtamhecmopnekjaaVfCC
import Derived.BigQuiet
namespace Go.Proofs.Ytamhecmopnekjaa.Vf
open Go Go.RowKit Go.Maps Go.Proofs.Ytamhecmopnekjaa Go.Proofs.YtamhecmopnekjaaW.PrintWords
set_option linter.unusedVariables false
set_option linter.unusedSimpArgs false

set_option maxRecDepth 100000 in
theorem nth_run {w : World} {b n : Nat} {D : Dt} (h : w.ownsMap Try.prog 3 (plainElem Try.prog 3) b n D) (op : Nat) (hop : 1 ≤ op ∧ op ≤ 7) :
    ∃ c, ∀ w' : World, w'.ownsMap Try.prog 3 (plainElem Try.prog 3) b n D → (Instr.lookup 70 (.map (some b)) (.int .i64 (op : Int)) false).run Try.prog w' = .ok (.int .i64 c) w' := by
  have hwf : (Lit.int .i64 (op : Int)).wf = true := by
    rcases (show op = 1 ∨ op = 2 ∨ op = 3 ∨ op = 4 ∨ op = 5 ∨ op = 6 ∨ op = 7 by omega) with rfl | rfl | rfl | rfl | rfl | rfl | rfl <;> decide
  have hz : ∀ w' : World, (zeroValue 3).run Try.prog w' = .ok (.int .i64 0) w' := fun w' => by kernel_rfl
  obtain ⟨c, _, hat, _⟩ := h.lookup_int keyed3 Try.underlying70 Try.underlying3 (hz w) (keyOf_int_mk Try.underlying3 hwf)
  refine ⟨c, fun w' h' => ?_⟩
  obtain ⟨c', hr, hat', _⟩ := h'.lookup_int keyed3 Try.underlying70 Try.underlying3 (hz w') (keyOf_int_mk Try.underlying3 hwf)
  rw [hat] at hat'
  injection hat' with e
  injection e with _ e
  rw [hr, e]
/-- What an operation comes to: it is done; or it is told ErrIO (where faults are laid), done or not. -/
def Out (w0 : World) (g : Nat) (S : St) (w : World) (Post : World → Prop) (e : Ending) (w' : World) : Prop :=
  (e = .returned (.int .i64 0) ∧ Post w') ∨ (e = .returned (.int .i64 5) ∧ S.flts ≠ [] ∧ (Post w' ∨ ∃ o' nth', FsB w0 g { S with o := o', nth := nth' } w' ∧ But2 w w' g S.bn))
theorem But2.trans_set {w w1 w2 : World} {g b : Nat} (h : But2 w w1 g b) (hg : w1.grownBy w2 (some g)) : But2 w w2 g b :=
  ⟨Nat.le_trans h.1 hg.size, fun k hk a c => (hg.block k (Nat.lt_of_lt_of_le hk h.1) (fun e => by injection e with e; exact a e)).trans (h.2 k hk a c)⟩
theorem But2.trans {w w1 w2 : World} {g b : Nat} (h : But2 w w1 g b) (h' : But2 w1 w2 g b) : But2 w w2 g b :=
  ⟨Nat.le_trans h.1 h'.1, fun k hk a c => (h'.2 k (Nat.lt_of_lt_of_le hk h.1) a c).trans (h.2 k hk a c)⟩
theorem But2.below {w w1 : World} {g b : Nat} (h : Below w.heap.size w w1) : But2 w w1 g b := ⟨h.size, fun k hk _ _ => h.block k hk⟩
def z3 : Fault := ⟨0, 0, 0⟩
/-- A fault of a row that is read, cell by cell. -/
theorem fault_at {w : World} {g n : Nat} {xs : List Fault} (h : kFault.C w (some ⟨g, 0, none⟩) n xs) (i : Nat) (hi : i < n) :
    w.cell? ⟨g, i * 3, none⟩ = some (.int .i64 (xs.getD i z3).op) ∧ w.cell? ⟨g, i * 3 + 1, none⟩ = some (.int .i64 (xs.getD i z3).nth) ∧ w.cell? ⟨g, i * 3 + 2, none⟩ = some (.int .i64 (xs.getD i z3).kind) := by
  obtain ⟨ad, c, e, hl, hK, hc⟩ := Kd.C_get h z3 (i : Int) (by omega) (by omega)
  injection e with e
  subst e
  rw [Int.toNat_natCast] at hK hc
  obtain ⟨c0, c1, e, h0, h1, c2, e2, h2, h3⟩ := hK
  have h0' : c0 = [.int .i64 (xs.getD i z3).op] := h0
  have h2' : _ = [Value.int .i64 (xs.getD i z3).nth] := h2
  have h3' : _ = [Value.int .i64 (xs.getD i z3).kind] := h3
  subst h0' h2' h3' e2 e
  have q0 := hc 0 _ rfl
  have q1 := hc 1 _ rfl
  have q2 := hc 2 _ rfl
  have hs : kFault.sz = 3 := rfl
  rw [hs, add_lit0] at q0 q1 q2
  exact ⟨q0, q1, q2⟩
set_option maxHeartbeats 4000000 in
set_option maxRecDepth 100000 in
theorem does_any (w0 : World) (g : Nat) (S : St) (op : Nat) (fn : Nat) (caps : Array Value) (w : World) (Post : World → Prop) (h : FsB w0 g S w) (hop : 1 ≤ op ∧ op ≤ 7)
    (hcf : ∀ (w : World), (callFunc fn caps).run Try.prog w = .ok (.enter fn caps) w)
    (hdo : ∀ o' nth' w1, FsB w0 g { S with o := o', nth := nth' } w1 → But2 w w1 g S.bn → Calls Try.prog fn caps w1 fun e w' => e = .returned (.tuple #[]) ∧ Post w') :
    Calls Try.prog 37 #[.pointer (some ⟨g, 0, none⟩), .int .i64 (op : Int), .func (.func fn) #[] caps] w fun e w' => Out w0 g S w Post e w' := by
  have hu := Try.underlying73
  have HF := Aside0.mk h
  have Hop := Aside0.mk hop
  have HD := Aside0.mk hdo
  clear h hop hdo
  have c14 : w.cell? ⟨g, 14, none⟩ = some (.bool false) := HF.out.cell 14 _ rfl
  obtain ⟨A, cap, hfv, hle, hC⟩ := Kd.R_reads HF.out.fa
  have Hfl := Aside0.mk (show 0 < S.flts.length → ∃ k, A = some ⟨k, 0, none⟩ from fun hp => by
    obtain ⟨k, cap', e, _⟩ := Kd.R_form HF.out.fa hp
    rw [hfv] at e
    injection e with e
    exact ⟨k, e⟩)
  have hmax : S.flts.length ≤ 9223372036854775807 := hC.2.1
  clear hC
  obtain ⟨N, hN⟩ : ∃ N, S.flts.length = N := ⟨_, rfl⟩
  rw [hN] at hfv hle Hfl hmax
  have HN := Aside0.mk hN
  have Hfv := Aside0.mk hfv
  clear hN hfv
  go_enter Try.func37, Try.ntmps37
  go_wp2_with (first
    | (go_at_call 53; refine (counted_any w0 g S op w HF.out Hop.out).mono ?_; rintro e w1 ⟨rfl, o1, nth1, hf1, hb1⟩; have HF1 := Aside0.mk hf1; have HB1 := Aside0.mk hb1; have c4 : w1.cell? ⟨g, 4, none⟩ = some (.slice A N cap) := (HF1.out.cell 4 _ rfl).trans (congrArg some Hfv.out); clear hf1 hb1)
    | go_in)
  have HC := Aside0.mk (show kFault.C w1 A N S.flts by rw [← HN.out]; have := HF1.out.fa; rw [show ({ S with o := o1, nth := nth1 } : St).fv = S.fv from rfl, Hfv.out] at this; exact (Kd.R_reads' this).2.2)
  go_wp2
  go_loopw [37] (fun iv wr => ∃ i : Nat, i ≤ N ∧ iv = .int .i64 i ∧ Aside0 (Below w1.heap.size w1 wr)) (fun iv _ => N - (intOf iv).toNat)
  case atStart => exact ⟨0, Nat.zero_le _, rfl, ⟨Below.refl _ _⟩⟩
  case round =>
    obtain ⟨i, hi, rfl, HB⟩ := hrel
    by_cases hlt : i < N
    · obtain ⟨k, rfl⟩ := Hfl.out (by omega)
      obtain ⟨f0, f1, f2⟩ := fault_at HC.out i hlt
      generalize S.flts.getD i z3 = x at *
      have hli : (i : Int) < (N : Int) := by omega
      replace f0 := (HB.out.cell (World.block_lt_of_cell? w1 _ f0)).trans f0
      replace f1 := (HB.out.cell (World.block_lt_of_cell? w1 _ f1)).trans f1
      replace f2 := (HB.out.cell (World.block_lt_of_cell? w1 _ f2)).trans f2
      have HR := Aside0.mk (HF1.out.below HB.out)
      obtain ⟨c, hcr⟩ := nth_run HR.out.nt op Hop.out
      have hlk : ∀ m : Nat, (Instr.lookup 70 (.map (some S.bn)) (.int .i64 (op : Int)) false).run Try.prog ((wr.alloc (.cells #[.int .i64 x.op, .int .i64 x.nth, .int .i64 x.kind] 89)).drewN m) = .ok (.int .i64 c) ((wr.alloc (.cells #[.int .i64 x.op, .int .i64 x.nth, .int .i64 x.kind] 89)).drewN m) := fun m => hcr _ ((HR.out.alloc _).drewN m).nt
      have c5 : (wr.alloc (.cells #[.int .i64 x.op, .int .i64 x.nth, .int .i64 x.kind] 89)).cell? ⟨g, 5, none⟩ = some (.map (some S.bn)) := (HR.out.alloc _).cell 5 _ rfl
      have HA := Aside0.mk (show ∀ (o : Obj) (m : Nat), Below w1.heap.size w1 ((wr.alloc o).drewN m) from fun o m => pw_below_drewN (HB.out.alloc HB.out.size _) m)
      clear c4 hcr
      by_cases ho : x.op = (op : Int)
      · rw [ho] at hlk f0 c5
        have d1 : decide (x.op = (op : Int)) = true := decide_eq_true ho
        by_cases hn : x.nth = c
        · have d3 : (x.nth != c) = false := by rw [hn]; exact bne_self_eq_false _
          have hgne : ¬ wr.heap.size = g := fun e => by have := blk_lt HR.out.fs; omega
          have HX := Aside0.mk (show ∀ m : Nat, FsB w0 g { S with o := o1, nth := nth1 } ((wr.alloc (.cells #[.int .i64 (op : Int), .int .i64 x.nth, .int .i64 x.kind] 89)).drewN m) from fun m => (HR.out.alloc _).drewN m)
          have HQ := Aside0.mk (show ∀ (o : Obj) (m : Nat), But2 w ((wr.alloc o).drewN m) g S.bn from fun o m => HB1.out.trans (But2.below (HA.out o m)))
          have c13 : (wr.alloc (.cells #[.int .i64 (op : Int), .int .i64 x.nth, .int .i64 x.kind] 89)).cell? ⟨g, 13, none⟩ = some (.int .i64 (o1 7)) := (HR.out.alloc _).cell 13 _ rfl
          have q13 := blk_frozen (HR.out.alloc (.cells #[.int .i64 (op : Int), .int .i64 x.nth, .int .i64 x.kind] 89)).fs 13
          have hne : S.flts ≠ [] := fun e => by have := HN.out; rw [e] at this; simp at this; omega
          have HNE := Aside0.mk hne
          clear hn hne
          have HS := Aside0.mk (show ∀ (m : Nat) (v : Int), FsB w0 g { S with o := upd o1 7 v, nth := nth1 } (((wr.alloc (.cells #[.int .i64 (op : Int), .int .i64 x.nth, .int .i64 x.kind] 89)).drewN m).setCell ⟨g, 13, none⟩ (.int .i64 v)) ∧ But2 w (((wr.alloc (.cells #[.int .i64 (op : Int), .int .i64 x.nth, .int .i64 x.kind] 89)).drewN m).setCell ⟨g, 13, none⟩ (.int .i64 v)) g S.bn from fun m v =>
            ⟨(HX.out m).setO (upd o1 7 v) (grown_set _ _ _ _) (blk_put (HX.out m).fs _ _ rfl), (HQ.out _ m).trans_set (grown_set _ _ _ _)⟩)
          by_cases hk : x.kind = 2
          · have d4 : (x.kind == (2 : Int)) = true := by rw [hk]; rfl
            have d5 : decide (x.kind = 2) = true := decide_eq_true hk
            clear hk
            go_wp2
            go_quiet (fail)
            go_wp2_with (with_reducible refine (HD.out _ _ _ (HS.out _ _).1 (HS.out _ _).2).mono ?_; rintro e w2 ⟨rfl, hp⟩; have HP := Aside0.mk hp; clear hp)
            go_ret
            exact .inr ⟨rfl, HNE.out, .inl HP.out⟩
          · have d4 : (x.kind == (2 : Int)) = false := by rw [beq_eq_false_iff_ne]; exact hk
            have d5 : decide (x.kind = 2) = false := decide_eq_false hk
            clear hk
            go_wp2
            go_quiet (fail)
            go_wp2
            go_ret
            exact .inr ⟨rfl, HNE.out, .inr ⟨_, _, (HS.out _ _).1, (HS.out _ _).2⟩⟩
        · have d2 : decide (x.nth = c) = false := decide_eq_false hn
          have d3 : (x.nth != c) = true := by rw [bne_iff_ne]; exact hn
          clear hn
          go_wp2
          go_quiet (fail)
          go_wp2
          go_roundw
          case rel => exact ⟨i + 1, by omega, by go_num, ⟨HA.out _ _⟩⟩
          case measure => simp [intOf]; omega
      · have d1 : decide (x.op = (op : Int)) = false := decide_eq_false ho
        have d3 : (x.op != (op : Int)) = true := by rw [bne_iff_ne]; exact ho
        clear ho
        go_wp2
        go_quiet (fail)
        go_wp2
        go_roundw
        case rel => exact ⟨i + 1, by omega, by go_num, ⟨HA.out _ _⟩⟩
        case measure => simp [intOf]; omega
    · obtain rfl : i = N := by omega
      have HR := Aside0.mk (HF1.out.below HB.out)
      have HQ := Aside0.mk (HB1.out.trans (But2.below HB.out))
      go_wp2_with (with_reducible refine (HD.out _ _ _ HR.out HQ.out).mono ?_; rintro e w2 ⟨rfl, hp⟩; have HP := Aside0.mk hp; clear hp)
      go_ret
      exact .inl ⟨rfl, HP.out⟩
end Go.Proofs.Ytamhecmopnekjaa.Vf
/- vfs: what a step of the file system leaves of its state: the bundle without its own block, and the updates. -/
namespace Go.Proofs.Ytamhecmopnekjaa.Vf
open Go Go.RowKit Go.Maps Go.Proofs.Ytamhecmopnekjaa Go.Proofs.YtamhecmopnekjaaW.PrintWords
set_option linter.unusedVariables false
set_option linter.unusedSimpArgs false

/-- All cells of other types than T's, and all maps that are not M, stand as they stood. -/
structure Wr (w w' : World) (T M : Nat → Prop) : Prop where
  sz : w.heap.size ≤ w'.heap.size
  cs : ∀ (k : Nat) (cs : Array Value) (t : TypeId) (fz : Nat × Nat), w.heap[k]? = some (Obj.cells cs t fz) → ¬ T t → w'.heap[k]? = w.heap[k]?
  ms : ∀ (k : Nat) (es : Array MapEntry) (c : Nat), w.heap[k]? = some (Obj.map es c) → ¬ M k → w'.heap[k]? = w.heap[k]?
theorem Wr.of_cells {w w' : World} {g t : Nat} {cs : Array Value} {fz : Nat × Nat} {T M : Nat → Prop} (hg : w.grownBy w' (some g)) (h : w.heap[g]? = some (.cells cs t fz)) (hT : T t) : Wr w w' T M where
  sz := hg.size
  cs := fun k cs' t' fz' hk hn => hg.block k (blk_lt hk) (fun e => by
    injection e with e
    subst e
    have := hk.symm.trans h
    injection this with this
    injection this with _ h2 _
    subst h2
    exact hn hT)
  ms := fun k es c hk _ => hg.block k (blk_lt hk) (fun e => by
    injection e with e
    subst e
    have := hk.symm.trans h
    cases this)
theorem Wr.of_map {H : Type} {P : Program} {kt : TypeId} {R : Value → Option (DataW H × List MemPlace)} {b n : Nat} {D : DataW H} {w w' : World} {T M : Nat → Prop} (hg : w.grownBy w' (some b)) (h : w.ownsMap P kt R b n D) (hM : M b) : Wr w w' T M := by
  obtain ⟨es, clock, h1, _⟩ := h
  refine ⟨hg.size, fun k cs t fz hk _ => hg.block k (blk_lt hk) (fun e => ?_), fun k es' c hk hn => hg.block k (blk_lt hk) (fun e => ?_)⟩
  · injection e with e
    subst e
    have := hk.symm.trans h1
    cases this
  · injection e with e
    subst e
    exact hn hM
theorem Wr.of_none {w w' : World} {T M : Nat → Prop} (hg : w.grownBy w' none) : Wr w w' T M := ⟨hg.size, fun k _ _ _ hk _ => hg.block k (blk_lt hk) (by simp), fun k _ _ hk _ => hg.block k (blk_lt hk) (by simp)⟩
theorem Wr.of_below {w w' : World} {T M : Nat → Prop} (hb : Below w.heap.size w w') : Wr w w' T M := ⟨hb.size, fun k _ _ _ hk _ => hb.block k (blk_lt hk), fun k _ _ hk _ => hb.block k (blk_lt hk)⟩
theorem Wr.trans {w w1 w2 : World} {T M : Nat → Prop} (h : Wr w w1 T M) (h' : Wr w1 w2 T M) : Wr w w2 T M where
  sz := Nat.le_trans h.sz h'.sz
  cs := fun k cs t fz hk hn => by
    have h1 := h.cs k cs t fz hk hn
    exact (h'.cs k cs t fz (h1.trans hk) hn).trans h1
  ms := fun k es c hk hn => by
    have h1 := h.ms k es c hk hn
    exact (h'.ms k es c (h1.trans hk) hn).trans h1
theorem Wr.kept {w w' : World} {T M : Nat → Prop} (h : Wr w w' T M) (hT : ∀ t, T t → t = TFS ∨ t = TFile ∨ t = TTurn) : KeptT w w' :=
  ⟨h.sz, fun k cs t z hk h1 h2 h3 => (h.cs k cs t z hk (fun ht => by rcases hT t ht with h | h | h <;> contradiction)).trans hk⟩
section
variable {w w' : World} {T M : Nat → Prop}
theorem Wr.own {H : Type} {P : Program} {kt : TypeId} {R : Value → Option (DataW H × List MemPlace)} {b n : Nat} {D : DataW H} (hw : Wr w w' T M) (h : w.ownsMap P kt R b n D) (hM : ¬ M b) : w'.ownsMap P kt R b n D := by
  obtain ⟨es, clock, h1, h2, h3, h4⟩ := h
  exact ⟨es, clock, (hw.ms b es clock h1 hM).trans h1, h2, h3, h4⟩
theorem Wr.row {α : Type} {d : Kd α} {e base : Nat} {v : Value} {xs : List α} (hw : Wr w w' T M) (h : d.R e w base (fun _ => True) v xs) (hE : ∀ q ∈ e :: d.E, ¬ T q) : d.R e w' base (fun _ => True) v xs := by
  refine Kd.R_mono (Kd.R_move (Kd.R_bound h) (fun k hk => ?_)) (fun _ _ => trivial)
  obtain ⟨_, _, hlt, q, hq, cells, hcell⟩ := hk
  exact hw.cs k cells q _ hcell (hE q hq)
theorem Wr.bytes {B : Nat} {v : Value} {L : List UInt8} (hw : Wr w w' T M) (h : BytesAt w B v L) (hT : ¬ T 5) : BytesAt w' B v L := h.kept fun k cur fz _ hk => hw.cs k cur _ fz hk hT
theorem Wr.file {B b : Nat} {x : VFile} (hw : Wr w w' T M) (h : FileAt B x b w) (hT : ¬ T 5) (hT2 : ¬ T TFile) : FileAt B x b w' := by
  obtain ⟨v, h1, h2⟩ := h.cs
  exact ⟨h.ge, v, (hw.cs b _ _ _ h1 hT2).trans h1, hw.bytes h2 hT⟩
end
/-- The state without the file system's own block. -/
structure FsR (w0 : World) (S : St) (w : World) : Prop where
  be : Below w0.heap.size w0 w
  se : w.ownsMap Try.prog 9 rdF S.bs (Maps.size S.seen) S.seen
  la : w.ownsMap Try.prog 9 rdF S.bl (Maps.size S.lasts) S.lasts
  nt : w.ownsMap Try.prog 3 (plainElem Try.prog 3) S.bn (Maps.size S.nth) S.nth
  bB : w0.heap.size ≤ S.bs ∧ w0.heap.size ≤ S.bl ∧ w0.heap.size ≤ S.bn
  ne : S.bs ≠ S.bl ∧ S.bs ≠ S.bn ∧ S.bl ≠ S.bn
  pe : kTurn.R TTurn w w0.heap.size (fun _ => True) S.pv S.pend
  fa : kFault.R TFault w w0.heap.size (fun _ => True) S.fv S.flts
  fi : ∀ b ∈ S.fb, FileAt w0.heap.size (S.fl b) b w
  sn : Named S.seen S.fb
  ln : Named S.lasts S.fb
  pn : ∀ t ∈ S.pend, TurnOk t S.fb
  nb : Kinds S.nth
theorem FsB.rest {w0 w : World} {g : Nat} {S : St} (h : FsB w0 g S w) : FsR w0 S w := ⟨h.be, h.se, h.la, h.nt, h.bB, h.ne, h.pe, h.fa, h.fi, h.sn, h.ln, h.pn, h.nb⟩
theorem FsR.full {w0 w : World} {g : Nat} {S : St} (h : FsR w0 S w) (hg : w0.heap.size ≤ g) (hc : w.heap[g]? = some (.cells S.cells TFS (0, 0))) : FsB w0 g S w := ⟨h.be, hg, hc, h.se, h.la, h.nt, h.bB, h.ne, h.pe, h.fa, h.fi, h.sn, h.ln, h.pn, h.nb⟩
theorem FsR.wr {w0 w w' : World} {S : St} {T M : Nat → Prop} (h : FsR w0 S w) (hw : Wr w w' T M) (be : Below w0.heap.size w0 w') (hs : ¬ M S.bs) (hl : ¬ M S.bl) (hn : ¬ M S.bn) (h1 : ¬ T TTurn) (h2 : ¬ T TFault) (h3 : ¬ T TFile) (h4 : ¬ T 5) : FsR w0 S w' where
  be := be
  se := hw.own h.se hs
  la := hw.own h.la hl
  nt := hw.own h.nt hn
  bB := h.bB
  ne := h.ne
  pe := hw.row h.pe (fun q hq => by rcases List.mem_cons.1 hq with rfl | hq; exact h1; cases hq)
  fa := hw.row h.fa (fun q hq => by rcases List.mem_cons.1 hq with rfl | hq; exact h2; cases hq)
  fi := fun b hb => hw.file (h.fi b hb) h4 h3
  sn := h.sn
  ln := h.ln
  pn := h.pn
  nb := h.nb
/-- A store into the file system's own block. -/
theorem FsR.own {w0 w w' : World} {g : Nat} {S : St} {cs : Array Value} (h : FsR w0 S w) (hg : w.grownBy w' (some g)) (hc : w.heap[g]? = some (.cells cs TFS (0, 0))) (hB : w0.heap.size ≤ g) : FsR w0 S w' :=
  h.wr (T := fun t => t = TFS) (M := fun _ => False) (Wr.of_cells hg hc rfl) (h.be.grown hg h.be.size (fun k hk => by injection hk with hk; rw [← hk]; exact hB)) id id id (by decide) (by decide) (by decide) (by decide)
/-- A turn is put behind the pending ones. -/
theorem FsR.pend {w0 w w' : World} {S : St} (h : FsR w0 S w) {v : Value} {t : Turn} (ht : TurnOk t S.fb) (hr : kTurn.R TTurn w' w0.heap.size (fun _ => True) v (S.pend ++ [t])) (be : Below w0.heap.size w0 w') (hg : w.grownBy w' S.pv.ownBlock) : FsR w0 { S with pv := v, pend := S.pend ++ [t] } w' := by
  have h0 : FsR w0 { S with pv := .slice none 0 0, pend := [] } w := { h with pe := Kd.R_nil _ _ _ _ _, pn := fun t ht => by cases ht }
  have hw : Wr w w' (fun t => t = TTurn) (fun _ => False) := by
    cases ho : S.pv.ownBlock with
    | none => rw [ho] at hg; exact Wr.of_none hg
    | some k =>
      rw [ho] at hg
      obtain ⟨inner, hown⟩ := Kd.R_own h.pe
      obtain ⟨cells, hc⟩ := own_typed hown k ho
      exact Wr.of_cells hg hc rfl
  have h1 : FsR w0 { S with pv := .slice none 0 0, pend := [] } w' := {
    be := be
    se := hw.own h.se id
    la := hw.own h.la id
    nt := hw.own h.nt id
    bB := h.bB
    ne := h.ne
    pe := Kd.R_nil _ _ _ _ _
    fa := hw.row h.fa (fun q hq => by rcases List.mem_cons.1 hq with rfl | hq; decide; cases hq)
    fi := fun b hb => hw.file (h.fi b hb) (by decide) (by decide)
    sn := h.sn
    ln := h.ln
    pn := fun t ht => by cases ht
    nb := h.nb }
  have hp : ∀ t' ∈ S.pend ++ [t], TurnOk t' S.fb := fun t' ht' => (List.mem_append.1 ht').elim (h.pn t') (fun h2 => by rw [List.mem_singleton.1 h2]; exact ht)
  exact { h1 with pe := hr, pn := hp }
/-- The directory that is seen is written. -/
theorem FsR.seen {w0 w w' : World} {S : St} (h : FsR w0 S w) {D : Dt} (ho : w'.ownsMap Try.prog 9 rdF S.bs (Maps.size D) D) (hD : Named D S.fb) (hg : w.grownBy w' (some S.bs)) : FsR w0 { S with seen := D } w' := by
  have hw : Wr w w' (fun _ => False) (fun k => k = S.bs) := Wr.of_map hg h.se rfl
  exact {
    be := h.be.grown hg h.be.size (fun k hk => by injection hk with hk; rw [← hk]; exact h.bB.1)
    se := ho
    la := hw.own h.la (fun e => h.ne.1 e.symm)
    nt := hw.own h.nt (fun e => h.ne.2.1 e.symm)
    bB := h.bB
    ne := h.ne
    pe := hw.row h.pe (fun q hq => id)
    fa := hw.row h.fa (fun q hq => id)
    fi := fun b hb => hw.file (h.fi b hb) id id
    sn := hD
    ln := h.ln
    pn := h.pn
    nb := h.nb }
/-- The lasting directory is written. -/
theorem FsR.lasts {w0 w w' : World} {S : St} (h : FsR w0 S w) {D : Dt} (ho : w'.ownsMap Try.prog 9 rdF S.bl (Maps.size D) D) (hD : Named D S.fb) (hg : w.grownBy w' (some S.bl)) : FsR w0 { S with lasts := D } w' := by
  have hw : Wr w w' (fun _ => False) (fun k => k = S.bl) := Wr.of_map hg h.la rfl
  exact {
    be := h.be.grown hg h.be.size (fun k hk => by injection hk with hk; rw [← hk]; exact h.bB.2.1)
    se := hw.own h.se (fun e => h.ne.1 e)
    la := ho
    nt := hw.own h.nt (fun e => h.ne.2.2 e.symm)
    bB := h.bB
    ne := h.ne
    pe := hw.row h.pe (fun q hq => id)
    fa := hw.row h.fa (fun q hq => id)
    fi := fun b hb => hw.file (h.fi b hb) id id
    sn := h.sn
    ln := hD
    pn := h.pn
    nb := h.nb }
def updF (fl : Nat → VFile) (b : Nat) (x : VFile) : Nat → VFile := fun k => if k = b then x else fl k
/-- A file's own cells are written. -/
theorem FsR.file {w0 w w' : World} {S : St} (h : FsR w0 S w) {b : Nat} {x : VFile} (hb : b ∈ S.fb) (hf : FileAt w0.heap.size x b w') (hg : w.grownBy w' (some b)) : FsR w0 { S with fl := updF S.fl b x } w' := by
  obtain ⟨v, hv, _⟩ := (h.fi b hb).cs
  have hw : Wr w w' (fun t => t = TFile) (fun _ => False) := Wr.of_cells hg hv rfl
  exact {
    be := h.be.grown hg h.be.size (fun k hk => by injection hk with hk; rw [← hk]; exact (h.fi b hb).ge)
    se := hw.own h.se id
    la := hw.own h.la id
    nt := hw.own h.nt id
    bB := h.bB
    ne := h.ne
    pe := hw.row h.pe (fun q hq => by rcases List.mem_cons.1 hq with rfl | hq; decide; cases hq)
    fa := hw.row h.fa (fun q hq => by rcases List.mem_cons.1 hq with rfl | hq; decide; cases hq)
    fi := fun k hk => by
      show FileAt w0.heap.size (if k = b then x else S.fl k) k w'
      by_cases e : k = b
      · rw [if_pos e, e]; exact hf
      · rw [if_neg e]
        obtain ⟨v2, hv2, hb2⟩ := (h.fi k hk).cs
        exact ⟨(h.fi k hk).ge, v2, (hg.block k (blk_lt hv2) (fun h => e (by injection h))).trans hv2, hw.bytes hb2 (by decide)⟩
    sn := h.sn
    ln := h.ln
    pn := h.pn
    nb := h.nb }
theorem named_mono {D : Dt} {fb fb' : List Nat} (h : Named D fb) (hs : ∀ b ∈ fb, b ∈ fb') : Named D fb' := fun k z hk => by
  obtain ⟨b, hb, e⟩ := h k z hk
  exact ⟨b, hs b hb, e⟩
theorem TurnOk.mono {t : Turn} {fb fb' : List Nat} (h : TurnOk t fb) (hs : ∀ b ∈ fb, b ∈ fb') : TurnOk t fb' := by
  obtain ⟨h1, h2, ⟨h3, f, hf, e⟩ | h3⟩ := h
  · exact ⟨h1, h2, .inl ⟨h3, f, hs f hf, e⟩⟩
  · exact ⟨h1, h2, .inr h3⟩
/-- A new file. -/
def St.newF (S : St) (b : Nat) : St := { S with fb := b :: S.fb, fl := updF S.fl b ⟨[], 0⟩ }
theorem FsB.newF {w0 w : World} {g : Nat} {S : St} (h : FsB w0 g S w) : FsB w0 g (S.newF w.heap.size) (w.alloc (.cells #[.slice none 0 0, .int .i64 0] TFile)) := by
  have h1 := h.alloc (.cells #[.slice none 0 0, .int .i64 0] TFile)
  exact {
    be := h1.be
    gB := h1.gB
    fs := h1.fs
    se := h1.se
    la := h1.la
    nt := h1.nt
    bB := h1.bB
    ne := h1.ne
    pe := h1.pe
    fa := h1.fa
    fi := fun b hb => by
      show FileAt w0.heap.size (if b = w.heap.size then ⟨[], 0⟩ else S.fl b) b _
      rcases List.mem_cons.1 hb with rfl | hb
      · rw [if_pos rfl]
        exact ⟨h.be.size, _, heap_alloc_new w _, .inl ⟨rfl, rfl⟩⟩
      · rw [if_neg]
        · exact h1.fi b hb
        · rintro rfl
          obtain ⟨v, hv, _⟩ := (h.fi _ hb).cs
          have := blk_lt hv
          omega
    sn := named_mono h1.sn (fun b hb => List.mem_cons_of_mem _ hb)
    ln := named_mono h1.ln (fun b hb => List.mem_cons_of_mem _ hb)
    pn := fun t ht => (h1.pn t ht).mono (fun b hb => List.mem_cons_of_mem _ hb)
    nb := h1.nb }
end Go.Proofs.Ytamhecmopnekjaa.Vf
