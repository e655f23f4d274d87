/- vfs: Append's closure. -/
import Derived.Test.YtamhecmopnekjaaVfEE
namespace Go.Proofs.Ytamhecmopnekjaa.Vf
open Go Go.RowKit Go.Maps Go.Proofs.Ytamhecmopnekjaa Go.Proofs.YtamhecmopnekjaaW.PrintWords
set_option linter.unusedVariables false
set_option linter.unusedSimpArgs false

/-- append onto clipped bytes. -/
theorem run_append_clip (W : World) (B : Nat) (ty : TypeId) (A Ao : Option Addr) (n c m co : Nat) (L M : List UInt8) (hL : BytesAt W B (.slice A n c) L) (hM : ReadsInt W .u8 Ao m (nb M)) (hB : B ≤ W.heap.size) (hl : n + m ≤ 140737488355328) :
    ∃ v1 w1, (Builtin.append_ #[22, 22] ty #[.slice A n n, .slice Ao m co]).run Try.prog W = .ok v1 w1 ∧ BytesAt w1 B v1 (L ++ M) ∧ Below W.heap.size W w1 := by
  obtain ⟨i0, hi, hzz⟩ := Option.map_eq_some_iff.1 infoU8
  simp only [Prod.mk.injEq] at hzz
  obtain ⟨hz0, hz1, hz2⟩ := hzz
  have ht := Try.underlying22
  have hm : M.length = m := by have := hM.1; rwa [nb_len] at this
  rcases hL with ⟨e, rfl⟩ | ⟨k, cc, cur, fz, e, h1, h2, h3, h4, h5⟩
  · injection e with e1 e2 e3
    subst e1 e2 e3
    obtain ⟨v1, w1, hr, ho, hg, ha⟩ := run_append_G (P := Try.prog) W W.heap.size 22 ty 5 .u8 ht infoU8 (.slice none 0 0) [] (nb M) Ao m co (ownG_nil _ _ _ _) hM (Nat.le_refl _) (by simpa using hl)
    exact ⟨v1, w1, hr, (bytesAt_of_own (by rw [List.nil_append] at ho; exact ho)).lower hB, (Below.refl _ _).grown hg (Nat.le_refl _) (fun k hk => by cases hk)⟩
  · injection e with e1 e2 e3
    subst e1 e2
    rcases Nat.eq_zero_or_pos m with h0 | h0
    · subst h0
      have hM0 : M = [] := List.eq_nil_of_length_eq_zero hm
      subst hM0
      refine ⟨.slice (some ⟨k, 0, none⟩) L.length L.length, W, ?_, ?_, Below.refl _ _⟩
      · rcases Ao with _ | ad
        · simp [Builtin.append_, run_underlying ht, sizeOf, typeInfo, hi, Builtin.lenOf, Builtin.firstCells, storeCells]
        · have hf := run_firstCells_some (P := Try.prog) W i0.size 0 ad 0 co [] (by simp) (by simp)
          simp [Builtin.append_, run_underlying ht, sizeOf, typeInfo, hi, Builtin.lenOf, hf, storeCells]
      · rw [List.append_nil]
        exact .inr ⟨k, L.length, cur, fz, rfl, Nat.le_refl _, by omega, h3, h4, h5⟩
    · obtain ⟨ad, rfl, hc⟩ := hM.2.2 h0
      have hnl : (Go.Proofs.YtamhecmopnekjaaW.PrintWords.nums .u8 (nb M)).length = m := by simp [Go.Proofs.YtamhecmopnekjaaW.PrintWords.nums, nb, hm]
      have hcells : ∀ j u, (Go.Proofs.YtamhecmopnekjaaW.PrintWords.nums .u8 (nb M))[j]? = some u → W.cell? (ad.add j) = some u := by
        intro j u hu
        have hj : j < m := by
          rcases Nat.lt_or_ge j m with h | h
          · exact h
          · rw [List.getElem?_eq_none (by omega)] at hu; cases hu
        rw [hc j hj]
        simp only [Go.Proofs.YtamhecmopnekjaaW.PrintWords.nums, List.getElem?_map] at hu
        rw [List.getD_eq_getElem?_getD]
        rw [List.getElem?_eq_getElem (by rw [nb_len]; omega)] at hu ⊢
        simpa using hu
      have hxl : (Go.Proofs.YtamhecmopnekjaaW.PrintWords.nums .u8 (nb L)).length = L.length := by simp [Go.Proofs.YtamhecmopnekjaaW.PrintWords.nums, nb]
      have holds : ∀ j u, (Go.Proofs.YtamhecmopnekjaaW.PrintWords.nums .u8 (nb L))[j]? = some u → W.cell? ((⟨k, 0, none⟩ : Addr).add j) = some u := by
        intro j u hu
        have hj : j < L.length := by
          rcases Nat.lt_or_ge j L.length with h | h
          · exact h
          · rw [List.getElem?_eq_none (by omega)] at hu; cases hu
        rw [add_lit0, World.cell?, h4]
        show cur[j]? = _
        rw [h5 j hj, ← hu]
        simp [Go.Proofs.YtamhecmopnekjaaW.PrintWords.nums, nb, hj, List.getD_eq_getElem?_getD]
      have hr := run_append_grow (P := Try.prog) W 22 ty 5 i0 (.int .u8 0) ht hi hz0 ⟨k, 0, none⟩ L.length L.length (Go.Proofs.YtamhecmopnekjaaW.PrintWords.nums .u8 (nb L)) (by rw [hxl, hz1, Nat.mul_one]) holds ad m co (Go.Proofs.YtamhecmopnekjaaW.PrintWords.nums .u8 (nb M)) (by rw [hnl, hz1, Nat.mul_one]) hcells (by omega) (by omega) (growslice_fits (by omega) (by rw [hz2]; omega))
      have hge := grownCap_ge W (L.length + m) L.length 5
      refine ⟨_, _, hr, .inr ⟨W.heap.size, _, _, (0, 0), by rw [List.length_append, hm], by rw [List.length_append, hm]; exact hge, grownCap_le_maxLen W (L.length + m) L.length 5 (by simp only [maxLen]; omega), hB, heap_alloc_new W.drew _, fun i hi => ?_⟩, (below_drew1 (Below.refl _ _)).alloc (Nat.le_refl _) _⟩
      rw [List.length_append, hm] at hi
      have e1 : (Go.Proofs.YtamhecmopnekjaaW.PrintWords.nums .u8 (nb L)).toArray ++ (Go.Proofs.YtamhecmopnekjaaW.PrintWords.nums .u8 (nb M)).toArray = (Go.Proofs.YtamhecmopnekjaaW.PrintWords.nums .u8 (nb (L ++ M))).toArray := by simp [Go.Proofs.YtamhecmopnekjaaW.PrintWords.nums, nb_app]
      rw [e1, Array.getElem?_append_left (by simp [Go.Proofs.YtamhecmopnekjaaW.PrintWords.nums, nb]; omega)]
      have hi' : i < (L ++ M).length := by rw [List.length_append]; omega
      simp only [Go.Proofs.YtamhecmopnekjaaW.PrintWords.nums, nb, List.getD_eq_getElem?_getD, List.getElem?_eq_getElem hi', List.getElem?_toArray, List.map_map, List.getElem?_map, Option.map_some, Option.getD_some]
      rfl
theorem step_append_clip {ops : Array Oper} {o : Oper} {a : Act} {W : World} {K : Act → World → Prop} {Q : Exit → Act → World → Prop} {E : Prop}
    (B : Nat) (hgd : o.guard = none) (s x : Operand) (ho : o.op = .call { callee := .builtin .append, args := #[s, x], argTypes := #[22, 22] })
    (A Ao : Option Addr) (n c m co : Nat) (L M : List UInt8) (hs : a.eval s = .slice A n n) (hx : a.eval x = .slice Ao m co) (hL : BytesAt W B (.slice A n c) L) (hM : ReadsInt W .u8 Ao m (nb M)) (hB : B ≤ W.heap.size) (hl : n + m ≤ 140737488355328)
    (h : ∀ v1 w1, BytesAt w1 B v1 (L ++ M) → Below W.heap.size W w1 → K (a.put o.dst v1) w1) :
    if Region.wanted o (yielded ops a.tmps) = true then Oper.wp Try.prog o a W K Q else E := by
  have hw : Region.wanted o (yielded ops a.tmps) = true := by simp [Region.wanted, hgd]
  rw [if_pos hw]
  obtain ⟨v1, w1, hr, hb, hbe⟩ := run_append_clip W B o.type A Ao n c m co L M hL hM hB hl
  unfold Oper.wp execOp
  simp only [ho, resolve, invoke, builtin, Sem.run_bind, Sem.run_pure, Result.andThen_ok, List.map_toArray, List.map_cons, List.map_nil, hs, hx, hr]
  exact h v1 w1 hb hbe
/-- A call of a Go function, by its contract, as a step of a region. -/
theorem step_enter {P : Program} {ops : Array Oper} {o : Oper} {a : Act} {W : World} {K : Act → World → Prop} {Q : Exit → Act → World → Prop} {E : Prop} (f : Nat) (args : Array Value)
    (hgd : o.guard = none) (hrun : (execOp a.eval o).run P W = .ok (.enter f args) W) (v : Value) (h : Calls P f args W fun e w1 => e = .returned v ∧ w1 = W) (hk : K (a.put o.dst v) W) :
    if Region.wanted o (yielded ops a.tmps) = true then Oper.wp P o a W K Q else E := by
  have hw : Region.wanted o (yielded ops a.tmps) = true := by simp [Region.wanted, hgd]
  rw [if_pos hw]
  unfold Oper.wp
  rw [hrun, Oper.upon_enter]
  refine h.mono ?_
  rintro e w1 ⟨rfl, rfl⟩
  exact hk
def appX (x : VFile) (M : List UInt8) : VFile := ⟨x.bytes ++ M, x.synced⟩
set_option maxHeartbeats 4000000 in
set_option maxRecDepth 100000 in
theorem append1_any (w0 : World) (g : Nat) (S : St) (f bx bo : Nat) (vo : Value) (M : List UInt8) (w : World) (h : FsB w0 g S w) (hf : f ∈ S.fb) (hx : w.heap[bx]? = some (.cells #[.pointer (some ⟨f, 0, none⟩)] 75 (0, 0))) (ho : w.heap[bo]? = some (.cells #[vo] 22 (0, 0))) (hM : BytesAt w w0.heap.size vo M) (hlen : (S.fl f).bytes.length + M.length ≤ 140737488355328) :
    Calls Try.prog 38 #[.pointer (some ⟨bx, 0, none⟩), .pointer (some ⟨bo, 0, none⟩)] w fun e w' => e = .returned (.tuple #[]) ∧ FsB w0 g { S with fl := updF S.fl f (appX (S.fl f) M) } w' ∧ KeptT w w' := by
  have huf := Try.underlying78
  have HF := Aside0.mk h
  have Hf := Aside0.mk hf
  obtain ⟨v, hv, hb⟩ := (h.fi f hf).cs
  have hmaxc : ∀ {A n c}, v = .slice A n c → c ≤ maxLen ∧ (A = none → n = 0 ∧ c = 0) := fun {A n c} e => by
    rcases hb with ⟨rfl, _⟩ | ⟨k, c', cur, fz, e', h1, h2, h3, h4, h5⟩
    · injection e with e1 e2 e3
      subst e1 e2 e3
      exact ⟨by decide, fun _ => ⟨rfl, rfl⟩⟩
    · rw [e'] at e
      injection e with e1 e2 e3
      subst e1 e2 e3
      exact ⟨h2, fun h => by cases h⟩
  obtain ⟨A, cp, rfl, hcp⟩ := hb.form
  obtain ⟨Ao, co, rfl, hco⟩ := hM.form
  obtain ⟨hcm, hAn⟩ := hmaxc rfl
  have b0 : w.cell? ⟨bx, 0, none⟩ = some (.pointer (some ⟨f, 0, none⟩)) := (blk_cell hx 0).trans rfl
  have o0 : w.cell? ⟨bo, 0, none⟩ = some (.slice Ao M.length co) := (blk_cell ho 0).trans rfl
  have d0 : w.cell? ⟨f, 0, none⟩ = some (.slice A (S.fl f).bytes.length cp) := (blk_cell hv 0).trans rfl
  have q0 := blk_frozen hv 0
  have HCl := Aside0.mk (clip_bytes A (S.fl f).bytes.length cp w.drew hcp hcm hAn)
  have Hlen := Aside0.mk hlen
  have Hbx := Aside0.mk hx
  have Hv := Aside0.mk hv
  have Hb := Aside0.mk (show BytesAt w.drew w0.heap.size _ _ from hb)
  have HM := Aside0.mk (show BytesAt w.drew w0.heap.size _ _ from hM)
  have HZ := Aside0.mk (show ∀ A1 n1 c1 w1, BytesAt w1 w0.heap.size (.slice A1 n1 c1) ((S.fl f).bytes ++ M) → Below w.drew.heap.size w.drew w1 → FsB w0 g { S with fl := updF S.fl f (appX (S.fl f) M) } (w1.setCell ⟨f, 0, none⟩ (.slice A1 n1 c1)) ∧ KeptT w (w1.setCell ⟨f, 0, none⟩ (.slice A1 n1 c1)) from fun A1 n1 c1 w1 hb1 hbe => by
    have h1 := h.drew.below hbe
    have hv1 : w1.heap[f]? = some (.cells #[.slice A (S.fl f).bytes.length cp, .int .i64 ((S.fl f).synced : Int)] TFile (0, 0)) := (hbe.block f (blk_lt (show w.drew.heap[f]? = _ from hv))).trans hv
    have hgr := grown_set w1 f 0 (.slice A1 n1 c1)
    have hw : Wr w1 (w1.setCell ⟨f, 0, none⟩ (.slice A1 n1 c1)) (fun t => t = TFile) (fun _ => False) := Wr.of_cells hgr hv1 rfl
    have hr := h1.rest.file (x := appX (S.fl f) M) hf ⟨(h.fi f hf).ge, _, blk_put hv1 0 _ rfl, hw.bytes hb1 (by decide)⟩ hgr
    exact ⟨hr.full h.gB ((hw.cs g _ _ _ h1.fs (by decide)).trans h1.fs), ((KeptT.of_below (below_drew1 (Below.refl _ _))).trans (KeptT.of_below hbe)).trans (hw.kept (fun t ht => .inr (.inl ht)))⟩)
  have Hv2 := Aside0.mk (show ∀ w1, Below w.drew.heap.size w.drew w1 → w1.heap[f]? = some (.cells #[.slice A (S.fl f).bytes.length cp, .int .i64 ((S.fl f).synced : Int)] TFile (0, 0)) ∧ w1.heap[bx]? = some (.cells #[.pointer (some ⟨f, 0, none⟩)] 75 (0, 0)) from fun w1 hbe => ⟨(hbe.block f (blk_lt (show w.drew.heap[f]? = _ from hv))).trans hv, (hbe.block bx (blk_lt (show w.drew.heap[bx]? = _ from hx))).trans hx⟩)
  clear h hf hv hb hx ho hM hlen hmaxc hcp hco hcm hAn
  go_enter Try.func38, Try.ntmps38
  go_wp2
  refine Code.wp_mono (Q := fun e a' w' => match e with | .normal => a'.defers = [] ∧ (FsB w0 g { S with fl := updF S.fl f (appX (S.fl f) M) } w' ∧ KeptT w w') | _ => False) ?after ?_
  case after =>
    intro e a' w' hq
    cases e <;> try exact hq.elim
    obtain ⟨hd, hz⟩ := hq
    have HQ := Aside0.mk hz
    clear hz
    obtain ⟨tm, df⟩ := a'
    have hd' : df = [] := hd
    subst hd'
    clear hd
    go_end0
    exact ⟨rfl, HQ.out⟩
  go_region_law (first
    | (refine step_append_clip w0.heap.size rfl (.tmp 7) (.tmp 8) rfl A Ao (S.fl f).bytes.length cp M.length co (S.fl f).bytes M rfl rfl Hb.out HM.out.reads HF.out.drew.be.size Hlen.out ?_; intro v1 w1 hb1 hbe; obtain ⟨A1, c1, rfl, _⟩ := hb1.form; have k0 : w1.cell? ⟨f, 0, none⟩ = some (.slice A (S.fl f).bytes.length cp) := (blk_cell (Hv2.out w1 hbe).1 0).trans rfl; have l0 := blk_frozen (Hv2.out w1 hbe).1 0; have m0 : w1.cell? ⟨bx, 0, none⟩ = some (.pointer (some ⟨f, 0, none⟩)) := (blk_cell (Hv2.out w1 hbe).2 0).trans rfl; have HB1 := Aside0.mk (show BytesAt w1 w0.heap.size (.slice A1 ((S.fl f).bytes.length + M.length) c1) ((S.fl f).bytes ++ M) by rw [← List.length_append]; exact hb1); have HBe := Aside0.mk hbe; clear hb1 hbe)
    | (refine step_enter 39 #[.slice A (S.fl f).bytes.length cp] rfl (by go_simp) _ HCl.out ?_))
  all_goals exact ⟨rfl, HZ.out _ _ _ _ HB1.out HBe.out⟩
end Go.Proofs.Ytamhecmopnekjaa.Vf
/- vfs: Append. -/
namespace Go.Proofs.Ytamhecmopnekjaa.Vf
open Go Go.RowKit Go.Maps Go.Proofs.Ytamhecmopnekjaa Go.Proofs.YtamhecmopnekjaaW.PrintWords
set_option linter.unusedVariables false
set_option linter.unusedSimpArgs false

def appendE (S : St) (s : ByteArray) (n : Nat) : Int :=
  match look S.seen s with
  | none => 4
  | some f => if 1048576 < (S.fl f).bytes.length + n then 3 else if S.cap - (sumD S.fl S.seen : Nat) < (n : Int) then 2 else 0
set_option maxHeartbeats 4000000 in
set_option maxRecDepth 100000 in
theorem append_any (w0 : World) (g : Nat) (S : St) (N : Nat) (s : ByteArray) (A : Option Addr) (c : Nat) (M : List UInt8) (w : World) (h : FsB w0 g S w) (hN : Small S N) (hF : FilesOk S) (hs : s.size ≤ 9223372036854775807) (HR : ReadsInt w .u8 A M.length (nb M)) (hnc : M.length ≤ c) (hl : M.length ≤ 140737488351232) :
    Calls Try.prog 12 #[.pointer (some ⟨g, 0, none⟩), .string s, .slice A M.length c] w fun e w' =>
      (appendE S s M.length ≠ 0 ∧ e = .returned (.int .i64 (appendE S s M.length)) ∧ FsB w0 g S w' ∧ KeptT w w') ∨
      (appendE S s M.length = 0 ∧ ∃ f, look S.seen s = some f ∧ OutK w0 g S w (fun w' => ∃ o' nth', FsB w0 g { S with o := o', nth := nth', fl := updF S.fl f (appX (S.fl f) M) } w') e w') := by
  have hu := Try.underlying73
  have huf := Try.underlying78
  have HF := Aside0.mk h
  have hml : s.size ≤ maxLen := by unfold maxLen; omega
  have HM := Aside0.mk (made_some g S.bs w (h.cell 1 _ rfl))
  have hr := run_look h.se h.sn hml
  have hc1 := h.cell 1 (.map (some S.bs)) rfl
  have hmf : ∀ (fn : Fn) (first cap : Array Value) (w : World), (Instr.makeFunc fn first cap).run Try.prog w = .ok (.func fn first cap) w := fun _ _ _ _ => rfl
  have HRR := Aside0.mk HR
  have Hnc := Aside0.mk hnc
  have Hl := Aside0.mk hl
  rcases hlk : look S.seen s with _ | f
  · rw [hlk] at hr
    simp only [ptrV, Option.map_none] at hr
    have HE := Aside0.mk (show appendE S s M.length = 4 by unfold appendE; rw [hlk])
    clear h hs hlk hml hF hN HR hnc hl
    go_enter Try.func12, Try.ntmps12
    go_wp2_with (go_at_call 33; refine HM.out.mono ?_; rintro e w1 ⟨rfl, hw⟩; rw [hw]; clear hw w1)
    go_ret
    exact .inl ⟨by rw [HE.out]; decide, by rw [HE.out]; rfl, HF.out.alloc _, KeptT.of_below (below_alloc (Below.refl _ _) _)⟩
  · rw [hlk] at hr
    simp only [ptrV, Option.map_some] at hr
    have hf := (look_mem h.sn hlk).1
    have hb1 : Below w.heap.size w (w.alloc (.cells #[.pointer (some ⟨f, 0, none⟩)] 75)) := (Below.refl _ _).alloc (Nat.le_refl _) _
    have hbx := heap_alloc_new w (.cells #[.pointer (some ⟨f, 0, none⟩)] 75)
    obtain ⟨v, hv, hbv⟩ := (h.fi f hf).cs
    obtain ⟨Af, cp, rfl, hcp⟩ := hbv.form
    have d0 : (w.alloc (.cells #[.pointer (some ⟨f, 0, none⟩)] 75)).cell? ⟨f, 0, none⟩ = some (.slice Af (S.fl f).bytes.length cp) := (blk_cell ((hb1.block f (blk_lt hv)).trans hv) 0).trans rfl
    have hfl := (hF.fs f hf).1
    by_cases hlong : 1048576 < (S.fl f).bytes.length + M.length
    · have HE := Aside0.mk (show appendE S s M.length = 3 by unfold appendE; rw [hlk]; simp only [if_pos hlong])
      have hd : decide ((1048576 : Int) - (M.length : Int) < ((S.fl f).bytes.length : Int)) = true := decide_eq_true (by omega)
      have hlg : (1048576 : Int) - (M.length : Int) < ((S.fl f).bytes.length : Int) := by omega
      have q1 : ((S.fl f).bytes.length : Int) ≤ 9223372036854775807 := by omega
      have q2 : (M.length : Int) ≤ 9223372036854775807 := by omega
      clear h hs hml hF hN HR hnc hf hv hbv hcp hbx hb1 hlong hfl
      go_enter Try.func12, Try.ntmps12
      go_wp2_with (go_at_call 33; refine HM.out.mono ?_; rintro e w1 ⟨rfl, hw⟩; rw [hw]; clear hw w1)
      go_ret
      exact .inl ⟨by rw [HE.out]; decide, by rw [HE.out]; rfl, HF.out.alloc _, KeptT.of_below (below_alloc (Below.refl _ _) _)⟩
    · have hd : decide ((1048576 : Int) - (M.length : Int) < ((S.fl f).bytes.length : Int)) = false := decide_eq_false (by omega)
      have hlg : ¬ (1048576 : Int) - (M.length : Int) < ((S.fl f).bytes.length : Int) := by omega
      have q1 : ((S.fl f).bytes.length : Int) ≤ 9223372036854775807 := by omega
      have q2 : (M.length : Int) ≤ 9223372036854775807 := by omega
      have HLeft := Aside0.mk (left_any w0 g S N _ (h.below hb1) hN hF)
      by_cases hfull : S.cap - (sumD S.fl S.seen : Nat) < (M.length : Int)
      · have HE := Aside0.mk (show appendE S s M.length = 2 by unfold appendE; rw [hlk]; simp only [if_neg hlong, if_pos hfull])
        have hd2 : decide (S.cap - (sumD S.fl S.seen : Nat) < (M.length : Int)) = true := decide_eq_true hfull
        have HB := Aside0.mk hb1
        clear h hs hml hF hN HR hnc hf hv hbv hcp hbx hb1 hlong hfl
        go_enter Try.func12, Try.ntmps12
        go_wp2_with (first
          | (go_at_call 33; refine HM.out.mono ?_; rintro e w1 ⟨rfl, hw⟩; rw [hw]; clear hw w1)
          | (go_at_call 23; refine HLeft.out.mono ?_; rintro e w2 ⟨rfl, hb⟩; have HB2 := Aside0.mk hb; clear hb))
        go_ret
        have hb := HB.out.trans (HB2.out.mono HB.out.size)
        exact .inl ⟨by rw [HE.out]; decide, by rw [HE.out]; rfl, HF.out.below hb, KeptT.of_below hb⟩
      · have HE := Aside0.mk (show appendE S s M.length = 0 by unfold appendE; rw [hlk]; simp only [if_neg hlong, if_neg hfull])
        have hd2 : decide (S.cap - (sumD S.fl S.seen : Nat) < (M.length : Int)) = false := decide_eq_false hfull
        have HB := Aside0.mk hb1
        have hcf : ∀ (caps : Array Value) (w : World), (callFunc 38 caps).run Try.prog w = .ok (.enter 38 caps) w := fun caps w => by go_simp
        have HD := Aside0.mk (fun (w2 : World) (vo : Value) (hb2 : Below (w.alloc (.cells #[.pointer (some ⟨f, 0, none⟩)] 75)).heap.size (w.alloc (.cells #[.pointer (some ⟨f, 0, none⟩)] 75)) w2) (hM : BytesAt w2 w0.heap.size vo M) =>
          does_any w0 g S 2 38 #[.pointer (some ⟨w.heap.size, 0, none⟩), .pointer (some ⟨w2.heap.size, 0, none⟩)] (w2.alloc (.cells #[vo] 22)) (fun w' => KeptT w w' ∧ ∃ o' nth', FsB w0 g { S with o := o', nth := nth', fl := updF S.fl f (appX (S.fl f) M) } w') (((h.below hb1).below hb2).alloc _) (by decide) (hcf _) (fun o' nth' w1 hf1 hb => by
            have hx2 := (hb2.block w.heap.size (blk_lt hbx)).trans hbx
            have hx3 := (Go.heap_alloc_old w2 (.cells #[vo] 22) (blk_lt hx2)).trans hx2
            have ho3 := heap_alloc_new w2 (.cells #[vo] 22)
            have hlt := blk_lt h.fs
            have hbn := h.nt.lt
            have hsz := hb2.size
            rw [size_alloc] at hsz
            have n1 := (hb.2 w.heap.size (blk_lt hx3) (by omega) (by omega)).trans hx3
            have n2 := (hb.2 w2.heap.size (blk_lt ho3) (by omega) (by omega)).trans ho3
            have hM3 : BytesAt (w2.alloc (.cells #[vo] 22)) w0.heap.size vo M := hM.below ((Below.refl _ _).alloc (Nat.le_refl _) _)
            have h3 := ((h.below hb1).below hb2).alloc (.cells #[vo] 22)
            have hM1 : BytesAt w1 w0.heap.size vo M := hM3.kept (fun k cur fz hk hh => hb.2 k (blk_lt hh) (fun e => by
              subst e
              rw [h3.fs] at hh
              injection hh with hh
              injection hh with _ h2 _
              exact absurd h2 (by decide)) (fun e => by
              subst e
              obtain ⟨es, clock, hm, _⟩ := h3.nt
              rw [hm] at hh
              cases hh))
            refine (append1_any w0 g { S with o := o', nth := nth' } f w.heap.size w2.heap.size vo M w1 hf1 hf n1 n2 hM1 (by show (S.fl f).bytes.length + M.length ≤ _; omega)).mono ?_
            rintro e w3 ⟨rfl, hf2, hk2⟩
            exact ⟨rfl, ((((KeptT.of_below hb1).trans (KeptT.of_below hb2)).trans (KeptT.of_below (below_alloc (Below.refl _ _) _))).trans (hb.kept h3 rfl)).trans hk2, o', nth', hf2⟩))
        have HCl := Aside0.mk (fun (w2 : World) (hb2 : Below (w.alloc (.cells #[.pointer (some ⟨f, 0, none⟩)] 75)).heap.size (w.alloc (.cells #[.pointer (some ⟨f, 0, none⟩)] 75)) w2) => clone_bytes A M.length c M w2 ((HR.below hb1).below hb2) (by omega))
        have Hb0 := Aside0.mk (show w0.heap.size ≤ w.heap.size from h.be.size)
        clear h hs hml hF hN HR hnc hf hv hbv hcp hbx hb1 hlong hfl hcf
        go_enter Try.func12, Try.ntmps12
        go_wp2_with (first
          | (go_at_call 33; refine HM.out.mono ?_; rintro e w1 ⟨rfl, hw⟩; rw [hw]; clear hw w1)
          | (go_at_call 23; refine HLeft.out.mono ?_; rintro e w2 ⟨rfl, hb⟩; have HB2 := Aside0.mk hb; clear hb)
          | (go_at_call 36; refine (HCl.out _ HB2.out).mono ?_; rintro e w3 ⟨vo, rfl, hbo, hb3⟩; have HB3 := Aside0.mk (HB2.out.trans (hb3.mono HB2.out.size)); have HBo := Aside0.mk (hbo.lower (B' := w0.heap.size) (by have := HB2.out.size; rw [size_alloc] at this; have := Hb0.out; omega)); obtain ⟨Ao, co, rfl, _⟩ := hbo.form; clear hbo hb3)
          | (go_at_call 37; refine (HD.out _ _ HB3.out HBo.out).mono ?_; rintro e w1 ho; rcases ho with ⟨rfl, hk, hp⟩ | ⟨rfl, hne, ⟨hk, hp⟩ | ⟨o', nth', hf, hb⟩⟩))
        all_goals go_ret
        · exact .inr ⟨HE.out, f, rfl, hk, .inl ⟨rfl, hp⟩⟩
        · exact .inr ⟨HE.out, f, rfl, hk, .inr ⟨rfl, hne, .inl hp⟩⟩
        · exact .inr ⟨HE.out, f, rfl, (((KeptT.of_below HB.out).trans (KeptT.of_below HB3.out)).trans (KeptT.of_below (below_alloc (Below.refl _ _) _))).trans (hb.kept (((HF.out.below HB.out).below HB3.out).alloc _) rfl), .inr ⟨rfl, hne, .inr ⟨o', nth', hf⟩⟩⟩
end Go.Proofs.Ytamhecmopnekjaa.Vf
