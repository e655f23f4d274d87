/- vfs: turns, behind its closure; Create, Rename, Remove. -/
import Derived.Test.YtamhecmopnekjaaVfT
import Derived.RegionTactic
import Derived.Deep.RegionLaw
namespace Go.Proofs.Ytamhecmopnekjaa.Vf
open Go Go.RowKit Go.Maps Go.Proofs.Ytamhecmopnekjaa Go.Proofs.YtamhecmopnekjaaW.PrintWords
set_option linter.unusedVariables false
set_option linter.unusedSimpArgs false

/-- What an operation comes to, for a caller. -/
def OutK (w0 : World) (g : Nat) (S : St) (w : World) (Post : World → Prop) (e : Ending) (w' : World) : Prop :=
  KeptT w w' ∧ ((e = .returned (.int .i64 0) ∧ Post w') ∨ (e = .returned (.int .i64 5) ∧ S.flts ≠ [] ∧ (Post w' ∨ ∃ o' nth', FsB w0 g { S with o := o', nth := nth' } w')))
set_option maxHeartbeats 2000000 in
set_option maxRecDepth 100000 in
theorem turns_any (w0 : World) (g : Nat) (S : St) (t : Turn) (w : World) (h : FsB w0 g S w) (ht : TurnOk t S.fb) (hs : Maps.size S.seen < maxLen) (hp : (S.pend.length + 1) * 48 ≤ 140737488355328) :
    Calls Try.prog 35 #[.pointer (some ⟨g, 0, none⟩), turnV t] w fun e w' => OutK w0 g S w (fun w' => ∃ o' nth' pv', FsB w0 g { S with o := o', nth := nth', pv := pv', pend := S.pend ++ [t], seen := onD t S.seen } w') e w' := by
  have hu := Try.underlying73
  have hut := Try.underlying80
  obtain ⟨op, hop, hop7⟩ : ∃ op : Nat, t.op = (op : Int) ∧ (1 ≤ op ∧ op ≤ 7) := by
    obtain ⟨_, _, ⟨h1, _⟩ | ⟨h1, _⟩ | ⟨h1, _⟩⟩ := ht
    · exact ⟨1, h1, by omega⟩
    · exact ⟨5, h1, by omega⟩
    · exact ⟨4, h1, by omega⟩
  have hmf : ∀ (fn : Fn) (first cap : Array Value) (w : World), (Instr.makeFunc fn first cap).run Try.prog w = .ok (.func fn first cap) w := fun _ _ _ _ => rfl
  have hcf : ∀ (caps : Array Value) (w : World), (callFunc 52 caps).run Try.prog w = .ok (.enter 52 caps) w := fun caps w => by go_simp
  have HF := Aside0.mk h
  have hb2 : Below w.heap.size w ((w.alloc (.cells #[.pointer (some ⟨g, 0, none⟩)] 27)).alloc (.cells (turnCells t) TTurn)) := below_alloc ((Below.refl _ _).alloc (Nat.le_refl _) _) _
  have s1 := size_alloc w (.cells #[.pointer (some ⟨g, 0, none⟩)] 27)
  have hbt := heap_alloc_new (w.alloc (.cells #[.pointer (some ⟨g, 0, none⟩)] 27)) (.cells (turnCells t) TTurn)
  have hbf := heap_alloc_new w (.cells #[.pointer (some ⟨g, 0, none⟩)] 27)
  have hbf2 := (Go.heap_alloc_old (w.alloc (.cells #[.pointer (some ⟨g, 0, none⟩)] 27)) (.cells (turnCells t) TTurn) (blk_lt hbf)).trans hbf
  rw [s1] at hbt
  have HD := Aside0.mk (does_any w0 g S op 52 #[.pointer (some ⟨w.heap.size, 0, none⟩), .pointer (some ⟨w.heap.size + 1, 0, none⟩)] _ (fun w' => KeptT w w' ∧ ∃ o' nth' pv', FsB w0 g { S with o := o', nth := nth', pv := pv', pend := S.pend ++ [t], seen := onD t S.seen } w') (h.below hb2) hop7 (hcf _) (fun o' nth' w1 hf hb => by
    have hlt := blk_lt h.fs
    have hbn := h.nt.lt
    have n1 := (hb.2 w.heap.size (blk_lt hbf2) (by omega) (by omega)).trans hbf2
    have n2 := (hb.2 (w.heap.size + 1) (blk_lt hbt) (by omega) (by omega)).trans hbt
    refine (turns1_any w0 g { S with o := o', nth := nth' } t w.heap.size (w.heap.size + 1) w1 hf n1 n2 (fun e => ?_) ht hs hp).mono ?_
    · have := Kd.R_lt h.pe _ e
      omega
    · rintro e w2 ⟨rfl, pv', hf2, hk2⟩
      exact ⟨rfl, ((KeptT.of_below hb2).trans (hb.kept (h.below hb2) rfl)).trans hk2, o', nth', pv', hf2⟩))
  have Hb2 := Aside0.mk hb2
  clear h ht hs hp hbt hbf hbf2 s1 hcf hb2
  unfold turnCells at HD Hb2
  unfold turnV
  have Hop := Aside0.mk hop
  rw [hop] at HD Hb2 ⊢
  clear hop
  go_enter Try.func35, Try.ntmps35
  go_wp2_with (go_at_call 37; refine HD.out.mono ?_; rintro e w1 ho; rcases ho with ⟨rfl, hk, hp⟩ | ⟨rfl, hne, ⟨hk, hp⟩ | ⟨o', nth', hf, hb⟩⟩)
  all_goals go_ret
  · exact ⟨hk, .inl ⟨rfl, hp⟩⟩
  · exact ⟨hk, .inr ⟨rfl, hne, .inl hp⟩⟩
  · exact ⟨(KeptT.of_below Hb2.out).trans (hb.kept (HF.out.below Hb2.out) rfl), .inr ⟨rfl, hne, .inr ⟨o', nth', hf⟩⟩⟩
theorem OutK.ret {w0 w w' : World} {g : Nat} {S : St} {Post : World → Prop} {e : Ending} (h : OutK w0 g S w Post e w') : ∃ v : Int, e = .returned (.int .i64 v) := by
  rcases h.2 with ⟨h, _⟩ | ⟨h, _⟩
  · exact ⟨0, h⟩
  · exact ⟨5, h⟩
/-- A file system that is small enough. -/
structure Small (S : St) (N : Nat) : Prop where
  se : Maps.size S.seen ≤ N
  la : Maps.size S.lasts + S.pend.length ≤ N
  le : N ≤ 2000000000000
theorem Small.room {S : St} {N : Nat} (h : Small S N) : Maps.size S.seen < maxLen ∧ (S.pend.length + 1) * 48 ≤ 140737488355328 := by
  have h1 := h.se; have h2 := h.la; have h3 := h.le
  unfold maxLen
  omega
def createE (S : St) (s : ByteArray) : Int := if nmOk s = true then (if (look S.seen s).isSome = true then 11 else if 1024 ≤ Maps.size S.seen then 2 else 0) else 10
def createT (s : ByteArray) (b : Nat) : Turn := ⟨1, s, ByteArray.empty, some b⟩
theorem nmOk_size {s : ByteArray} (h : nmOk s = true) : s.size ≤ 64 := by
  unfold nmOk at h
  simp only [Bool.and_eq_true, decide_eq_true_eq] at h
  exact h.1.2
set_option maxHeartbeats 2000000 in
set_option maxRecDepth 100000 in
theorem create_any (w0 : World) (g : Nat) (S : St) (N : Nat) (s : ByteArray) (w : World) (h : FsB w0 g S w) (hN : Small S N) (hs : s.size ≤ 9223372036854775807) :
    Calls Try.prog 11 #[.pointer (some ⟨g, 0, none⟩), .string s] w fun e w' =>
      (createE S s ≠ 0 ∧ e = .returned (.int .i64 (createE S s)) ∧ FsB w0 g S w' ∧ KeptT w w') ∨
      (createE S s = 0 ∧ ∃ b, b ∉ S.fb ∧ OutK w0 g (S.newF b) w (fun w' => ∃ o' nth' pv', FsB w0 g { S.newF b with o := o', nth := nth', pv := pv', pend := S.pend ++ [createT s b], seen := onD (createT s b) S.seen } w') e w') := by
  have hu := Try.underlying73
  have huf := Try.underlying78
  have HF := Aside0.mk h
  have hM := made_some g S.bs w (h.cell 1 _ rfl)
  have HM := Aside0.mk hM
  have HNm := Aside0.mk (name_any s w hs)
  have HSm := Aside0.mk hN
  cases hnm : nmOk s with
  | false =>
    have HE := Aside0.mk (show createE S s = 10 by unfold createE; rw [hnm]; rfl)
    rw [hnm] at HNm
    clear h hM hN hs hnm
    go_enter Try.func11, Try.ntmps11
    go_wp2_with (first
      | (go_at_call 33; refine HM.out.mono ?_; rintro e w1 ⟨rfl, rfl⟩)
      | (go_at_call 34; refine HNm.out.mono ?_; rintro e w1 ⟨rfl, hb⟩))
    go_ret
    exact .inl ⟨by rw [HE.out]; decide, by rw [HE.out]; rfl, HF.out.below hb, KeptT.of_below hb⟩
  | true =>
    rw [hnm] at HNm
    have hsz := nmOk_size hnm
    have hml : s.size ≤ maxLen := Nat.le_trans hsz (by decide)
    have HL := Aside0.mk (fun w1 (hb : Below w.heap.size w w1) => run_look (h.below hb).se h.sn hml)
    have HLe := Aside0.mk (fun w1 (hb : Below w.heap.size w w1) (ty : TypeId) => (h.below hb).se.len Try.underlying69 ty)
    have HC1 := Aside0.mk (fun w1 (hb : Below w.heap.size w w1) => (h.below hb).cell 1 (.map (some S.bs)) rfl)
    have Hsz := Aside0.mk hsz
    have Hnm := Aside0.mk hnm
    rcases hl : look S.seen s with _ | f
    · rw [hl] at HL
      simp only [ptrV, Option.map_none] at HL
      by_cases hfu : 1024 ≤ Maps.size S.seen
      · have HE := Aside0.mk (show createE S s = 2 by unfold createE; rw [hnm, hl, if_pos rfl, if_neg (by decide), if_pos hfu])
        have hfu' : (1024 : Int) ≤ (Maps.size S.seen : Int) := by omega
        have hd : decide ((1024 : Int) ≤ (Maps.size S.seen : Int)) = true := decide_eq_true hfu'
        clear h hM hN hs hnm hl hsz hml hfu
        go_enter Try.func11, Try.ntmps11
        go_wp2_with (first
          | (go_at_call 33; refine HM.out.mono ?_; rintro e w1 ⟨rfl, rfl⟩)
          | (go_at_call 34; refine HNm.out.mono ?_; rintro e w1 ⟨rfl, hb⟩; have hr := HL.out w1 hb; have hle := HLe.out w1 hb; have hc1 := HC1.out w1 hb; have HB := Aside0.mk hb; clear hb))
        go_ret
        exact .inl ⟨by rw [HE.out]; decide, by rw [HE.out]; rfl, HF.out.below HB.out, KeptT.of_below HB.out⟩
      · have HE := Aside0.mk (show createE S s = 0 by unfold createE; rw [hnm, hl, if_pos rfl, if_neg (by decide), if_neg hfu])
        have hd : decide ((1024 : Int) ≤ (Maps.size S.seen : Int)) = false := decide_eq_false (by omega)
        have HT := Aside0.mk (fun w1 (hb : Below w.heap.size w w1) => turns_any w0 g (S.newF w1.heap.size) (createT s w1.heap.size) _ (h.below hb).newF ⟨hml, Nat.zero_le _, .inl ⟨rfl, _, List.mem_cons_self, rfl⟩⟩ hN.room.1 hN.room.2)
        have Hlt := Aside0.mk (show ∀ b ∈ S.fb, b < w.heap.size from fun b hb => by obtain ⟨v, hv, _⟩ := (h.fi b hb).cs; exact blk_lt hv)
        clear h hM hN hs hnm hl hsz hml hfu
        go_enter Try.func11, Try.ntmps11
        go_wp2_with (first
          | (go_at_call 33; refine HM.out.mono ?_; rintro e w1 ⟨rfl, rfl⟩)
          | (go_at_call 34; refine HNm.out.mono ?_; rintro e w1 ⟨rfl, hb⟩; have hr := HL.out w1 hb; have hle := HLe.out w1 hb; have hc1 := HC1.out w1 hb; have HB := Aside0.mk hb; have HT1 := Aside0.mk (HT.out w1 hb); clear hb)
          | (go_at_call 35; refine HT1.out.mono ?_; intro e w2 ho; obtain ⟨v, hv⟩ := ho.ret; subst hv; have HO := Aside0.mk ho; clear ho))
        go_ret
        exact .inr ⟨HE.out, _, (by intro hm; have := Hlt.out _ hm; have := HB.out.size; omega), ⟨((KeptT.of_below HB.out).trans (KeptT.of_below (below_alloc (Below.refl _ _) _))).trans HO.out.1, HO.out.2⟩⟩
    · rw [hl] at HL
      simp only [ptrV, Option.map_some] at HL
      have HE := Aside0.mk (show createE S s = 11 by unfold createE; rw [hnm, hl]; rfl)
      clear h hM hN hs hnm hl hsz hml
      go_enter Try.func11, Try.ntmps11
      go_wp2_with (first
        | (go_at_call 33; refine HM.out.mono ?_; rintro e w1 ⟨rfl, rfl⟩)
        | (go_at_call 34; refine HNm.out.mono ?_; rintro e w1 ⟨rfl, hb⟩; have hr := HL.out w1 hb; have hc1 := HC1.out w1 hb; have HB := Aside0.mk hb; clear hb))
      go_ret
      exact .inl ⟨by rw [HE.out]; decide, by rw [HE.out]; rfl, HF.out.below HB.out, KeptT.of_below HB.out⟩
def removeE (S : St) (s : ByteArray) : Int := if (look S.seen s).isSome = true then 0 else 4
def removeT (s : ByteArray) : Turn := ⟨5, s, ByteArray.empty, none⟩
set_option maxHeartbeats 2000000 in
set_option maxRecDepth 100000 in
theorem remove_any (w0 : World) (g : Nat) (S : St) (N : Nat) (s : ByteArray) (w : World) (h : FsB w0 g S w) (hN : Small S N) (hs : s.size ≤ 9223372036854775807) :
    Calls Try.prog 24 #[.pointer (some ⟨g, 0, none⟩), .string s] w fun e w' =>
      (removeE S s = 4 ∧ e = .returned (.int .i64 4) ∧ FsB w0 g S w' ∧ KeptT w w') ∨
      (removeE S s = 0 ∧ OutK w0 g S w (fun w' => ∃ o' nth' pv', FsB w0 g { S with o := o', nth := nth', pv := pv', pend := S.pend ++ [removeT s], seen := onD (removeT s) S.seen } w') e w') := by
  have hu := Try.underlying73
  have HF := Aside0.mk h
  have hml : s.size ≤ maxLen := by unfold maxLen; omega
  have hM := made_some g S.bs w (h.cell 1 _ rfl)
  have HM := Aside0.mk hM
  have hr := run_look h.se h.sn hml
  have hc1 := h.cell 1 (.map (some S.bs)) rfl
  have HT := Aside0.mk (turns_any w0 g S (removeT s) w h ⟨hml, Nat.zero_le _, .inr (.inl ⟨rfl, rfl⟩)⟩ hN.room.1 hN.room.2)
  rcases hl : look S.seen s with _ | f
  · rw [hl] at hr
    simp only [ptrV, Option.map_none] at hr
    have HE := Aside0.mk (show removeE S s = 4 by unfold removeE; rw [hl]; rfl)
    clear h hM hN hs hl hml
    go_enter Try.func24, Try.ntmps24
    go_wp2_with (go_at_call 33; refine HM.out.mono ?_; rintro e w1 ⟨rfl, rfl⟩)
    go_ret
    exact .inl ⟨HE.out, rfl, HF.out, KeptT.refl _⟩
  · rw [hl] at hr
    simp only [ptrV, Option.map_some] at hr
    have HE := Aside0.mk (show removeE S s = 0 by unfold removeE; rw [hl]; rfl)
    clear h hM hN hs hl hml
    go_enter Try.func24, Try.ntmps24
    go_wp2_with (first
      | (go_at_call 33; refine HM.out.mono ?_; rintro e w1 ⟨rfl, rfl⟩)
      | (go_at_call 35; refine HT.out.mono ?_; intro e w2 ho; obtain ⟨v, hv⟩ := ho.ret; subst hv; have HO := Aside0.mk ho; clear ho))
    go_ret
    exact .inr ⟨HE.out, HO.out⟩
def renameE (S : St) (s d : ByteArray) : Int := if (look S.seen s).isSome = true then (if nmOk d = true then 0 else 10) else 4
def renameT (s d : ByteArray) : Turn := ⟨4, s, d, none⟩
set_option maxHeartbeats 2000000 in
set_option maxRecDepth 100000 in
theorem rename_any (w0 : World) (g : Nat) (S : St) (N : Nat) (s d : ByteArray) (w : World) (h : FsB w0 g S w) (hN : Small S N) (hs : s.size ≤ 9223372036854775807) (hd : d.size ≤ 9223372036854775807) :
    Calls Try.prog 15 #[.pointer (some ⟨g, 0, none⟩), .string s, .string d] w fun e w' =>
      (renameE S s d ≠ 0 ∧ e = .returned (.int .i64 (renameE S s d)) ∧ FsB w0 g S w' ∧ KeptT w w') ∨
      (renameE S s d = 0 ∧ OutK w0 g S w (fun w' => ∃ o' nth' pv', FsB w0 g { S with o := o', nth := nth', pv := pv', pend := S.pend ++ [renameT s d], seen := onD (renameT s d) S.seen } w') e w') := by
  have hu := Try.underlying73
  have HF := Aside0.mk h
  have hml : s.size ≤ maxLen := by unfold maxLen; omega
  have hM := made_some g S.bs w (h.cell 1 _ rfl)
  have HM := Aside0.mk hM
  have hr := run_look h.se h.sn hml
  have hc1 := h.cell 1 (.map (some S.bs)) rfl
  have HNm := Aside0.mk (name_any d w hd)
  rcases hl : look S.seen s with _ | f
  · rw [hl] at hr
    simp only [ptrV, Option.map_none] at hr
    have HE := Aside0.mk (show renameE S s d = 4 by unfold renameE; rw [hl]; rfl)
    clear h hM hN hs hl hml
    go_enter Try.func15, Try.ntmps15
    go_wp2_with (go_at_call 33; refine HM.out.mono ?_; rintro e w1 ⟨rfl, rfl⟩)
    go_ret
    exact .inl ⟨by rw [HE.out]; decide, by rw [HE.out]; rfl, HF.out, KeptT.refl _⟩
  · rw [hl] at hr
    simp only [ptrV, Option.map_some] at hr
    cases hnm : nmOk d with
    | false =>
      have HE := Aside0.mk (show renameE S s d = 10 by unfold renameE; rw [hl, hnm]; rfl)
      rw [hnm] at HNm
      clear h hM hN hs hl hml hnm
      go_enter Try.func15, Try.ntmps15
      go_wp2_with (first
        | (go_at_call 33; refine HM.out.mono ?_; rintro e w1 ⟨rfl, rfl⟩)
        | (go_at_call 34; refine HNm.out.mono ?_; rintro e w1 ⟨rfl, hb⟩))
      go_ret
      exact .inl ⟨by rw [HE.out]; decide, by rw [HE.out]; rfl, HF.out.below hb, KeptT.of_below hb⟩
    | true =>
      have HE := Aside0.mk (show renameE S s d = 0 by unfold renameE; rw [hl, hnm]; rfl)
      have HT := Aside0.mk (fun w1 (hb : Below w.heap.size w w1) => turns_any w0 g S (renameT s d) w1 (h.below hb) ⟨hml, Nat.le_trans (nmOk_size hnm) (by decide), .inr (.inr ⟨rfl, rfl⟩)⟩ hN.room.1 hN.room.2)
      rw [hnm] at HNm
      clear h hM hN hs hl hml hnm
      go_enter Try.func15, Try.ntmps15
      go_wp2_with (first
        | (go_at_call 33; refine HM.out.mono ?_; rintro e w1 ⟨rfl, rfl⟩)
        | (go_at_call 34; refine HNm.out.mono ?_; rintro e w1 ⟨rfl, hb⟩; have HB := Aside0.mk hb; have HT1 := Aside0.mk (HT.out w1 hb); clear hb)
        | (go_at_call 35; refine HT1.out.mono ?_; intro e w2 ho; obtain ⟨v, hv⟩ := ho.ret; subst hv; have HO := Aside0.mk ho; clear ho))
      go_ret
      exact .inr ⟨HE.out, (KeptT.of_below HB.out).trans HO.out.1, HO.out.2⟩
end Go.Proofs.Ytamhecmopnekjaa.Vf
/- vfs: Left; Pending. -/
namespace Go.Proofs.Ytamhecmopnekjaa.Vf
open Go Go.RowKit Go.Maps Go.Proofs.Ytamhecmopnekjaa Go.Proofs.YtamhecmopnekjaaW.PrintWords
set_option linter.unusedVariables false
set_option linter.unusedSimpArgs false

def lenD (fl : Nat → VFile) : Dt → Nat
  | .lit (.int .i64 n) => (fl n.toNat).bytes.length
  | _ => 0
def sumOf (fl : Nat → VFile) (es : List (Lit × Dt)) : Nat := (es.map fun p => lenD fl p.2).sum
def entries (D : Dt) : List (Lit × Dt) := match D with | .map es => es | _ => []
def sumD (fl : Nat → VFile) (D : Dt) : Nat := sumOf fl (entries D)
def sumL (fl : Nat → VFile) (left : Lit → Bool) (es : List (Lit × Dt)) : Nat := sumOf fl (es.filter fun p => left p.1)
theorem lenD_fD (fl : Nat → VFile) (b : Nat) : lenD fl (fD b) = (fl b).bytes.length := by
  show (fl (Int.toNat (b : Int))).bytes.length = _
  rw [Int.toNat_natCast]
theorem sumOf_cons (fl : Nat → VFile) (p : Lit × Dt) (es : List (Lit × Dt)) : sumOf fl (p :: es) = lenD fl p.2 + sumOf fl es := by simp [sumOf]
theorem sumL_cons (fl : Nat → VFile) (left : Lit → Bool) (p : Lit × Dt) (es : List (Lit × Dt)) : sumL fl left (p :: es) = (if left p.1 then lenD fl p.2 else 0) + sumL fl left es := by
  unfold sumL
  rw [List.filter_cons]
  split
  · rw [sumOf_cons]
  · rw [Nat.zero_add]
theorem sum_step (fl : Nat → VFile) (left : Lit → Bool) (kl : Lit) (d : Dt) (hk : WideAt.IsKeyLit kl) : ∀ es : List (Lit × Dt), es.Pairwise (fun p q => p.1 ≠ q.1) → (kl, d) ∈ es → left kl = true → sumL fl left es = lenD fl d + sumL fl (fun z => left z && !z.sameKey kl) es
  | [], _, hm, _ => by cases hm
  | p :: r, hp, hm, hl => by
    obtain ⟨h1, h2⟩ := List.pairwise_cons.1 hp
    rw [sumL_cons, sumL_cons]
    rcases List.mem_cons.1 hm with rfl | hm
    · have hr : sumL fl (fun z => left z && !z.sameKey kl) r = sumL fl left r := by
        unfold sumL
        congr 1
        apply List.filter_congr
        intro q hq
        have : q.1.sameKey kl = false := by
          cases hs : q.1.sameKey kl
          · rfl
          · exact absurd (WideAt.sameKey_eq hs) (fun e => h1 q hq e.symm)
        show (left q.1 && !q.1.sameKey kl) = left q.1
        rw [this]; simp
      rw [hr, hl, WideAt.sameKey_self hk]
      simp
    · have hne : p.1 ≠ kl := h1 _ hm
      have hs : p.1.sameKey kl = false := by
        cases hs : p.1.sameKey kl
        · rfl
        · exact absurd (WideAt.sameKey_eq hs) hne
      rw [sum_step fl left kl d hk r h2 hm hl, hs]
      simp only [Bool.not_false, Bool.and_true]
      omega
theorem sumL_none (fl : Nat → VFile) (left : Lit → Bool) (h : ∀ kl, left kl = false) (es : List (Lit × Dt)) : sumL fl left es = 0 := by
  unfold sumL
  rw [show (fun p : Lit × Dt => left p.1) = (fun _ => false) from funext fun p => h p.1, List.filter_eq_nil_iff.2 (by simp)]
  rfl
theorem sumL_all (fl : Nat → VFile) (es : List (Lit × Dt)) (hk : ∀ p ∈ es, WideAt.IsKeyLit p.1) : sumL fl (Maps.has (.map es)) es = sumOf fl es := by
  unfold sumL
  congr 1
  apply List.filter_eq_self.2
  intro p hp
  rw [Maps.has_eq, List.any_eq_true]
  exact ⟨p, hp, WideAt.sameKey_self (hk p hp)⟩
theorem sumL_le (fl : Nat → VFile) (left : Lit → Bool) (es : List (Lit × Dt)) : sumL fl left es ≤ sumOf fl es := by
  induction es with
  | nil => exact Nat.le_refl _
  | cons p r ih => rw [sumL_cons, sumOf_cons]; split <;> omega
theorem mem_of_at {es : List (Lit × Dt)} {kl : Lit} {y : Dt} (h : Maps.has (.map es) kl = true) (ha : ∀ z, (DataW.map es).atKey kl z = y) : (kl, y) ∈ es := by
  rw [Maps.has_eq] at h
  have hs : (es.find? fun p => p.1.sameKey kl).isSome = true := by rw [List.find?_isSome]; simpa using h
  obtain ⟨p, hp⟩ := Option.isSome_iff_exists.1 hs
  have h1 := List.mem_of_find?_eq_some hp
  have h2 := List.find?_some hp
  have h3 := WideAt.sameKey_eq h2
  have h4 := ha .nil
  unfold DataW.atKey at h4
  simp only [hp] at h4
  rw [← h3, ← h4]
  exact h1
/-- The room that files may take. -/
structure FilesOk (S : St) : Prop where
  cap : 0 ≤ S.cap ∧ S.cap ≤ 16777216
  fs : ∀ b ∈ S.fb, (S.fl b).bytes.length ≤ 1048576 ∧ (S.fl b).synced ≤ (S.fl b).bytes.length
theorem sumOf_le (fl : Nat → VFile) (B : Nat) : ∀ es : List (Lit × Dt), (∀ p ∈ es, lenD fl p.2 ≤ B) → sumOf fl es ≤ es.length * B
  | [], _ => by simp [sumOf]
  | p :: r, h => by
    rw [sumOf_cons, List.length_cons, Nat.succ_mul]
    have h1 := h p List.mem_cons_self
    have h2 := sumOf_le fl B r (fun q hq => h q (List.mem_cons_of_mem _ hq))
    omega
theorem ptr_inv {v : Value} {y : Dt × List MemPlace} (h : rdF v = some y) : ∃ c : Option Nat, v = ptrV c := by
  rcases rdF_inv h with ⟨rfl, _⟩ | ⟨b, rfl, _⟩
  · exact ⟨none, rfl⟩
  · exact ⟨some b, rfl⟩
theorem named_at {D : Dt} {fb : List Nat} {kl : Lit} {c : Option Nat} {y : Dt × List MemPlace} (hN : Named D fb) (hh : Maps.has D kl = true) (hc : rdF (ptrV c) = some y) (ha : ∀ z, D.atKey kl z = y.1) : ∃ f ∈ fb, c = some f ∧ y.1 = fD f := by
  obtain ⟨f, hf, e⟩ := hN kl .nil hh
  rw [ha] at e
  rcases c with _ | b
  · have : y = (.nil, []) := by injection hc with hc; exact hc.symm
    rw [this] at e
    cases e
  · have : y = (fD b, []) := by injection hc with hc; exact hc.symm
    rw [this] at e
    have : b = f := by
      unfold fD at e
      injection e with e
      injection e with _ e
      omega
    subst this
    exact ⟨b, hf, rfl, by rw [‹y = _›]⟩
theorem key_any (key : Value) (kl : Lit) (h : keyOf Try.prog 9 key = some kl) : ∃ x : Value, key = id x := ⟨key, rfl⟩
set_option maxHeartbeats 4000000 in
set_option maxRecDepth 100000 in
theorem left_any (w0 : World) (g : Nat) (S : St) (N : Nat) (w : World) (h : FsB w0 g S w) (hN : Small S N) (hF : FilesOk S) :
    Calls Try.prog 23 #[.pointer (some ⟨g, 0, none⟩)] w fun e w' => e = .returned (.int .i64 (S.cap - (sumD S.fl S.seen : Nat))) ∧ Below w.heap.size w w' := by
  have hu := Try.underlying73
  have huf := Try.underlying78
  have HF := Aside0.mk h
  have HM := Aside0.mk (made_some g S.bs w (h.cell 1 _ rfl))
  have hc0 := h.cell 0 (.int .i64 S.cap) rfl
  have hc1 := h.cell 1 (.map (some S.bs)) rfl
  obtain ⟨es, hes, hpw, hkl⟩ := h.se.canon keyed9
  have hap := Maps.apart_of_rising hpw
  have Hap := Aside0.mk hap
  have Hkl := Aside0.mk hkl
  have Hes := Aside0.mk hes
  have hlen : ∀ p ∈ es, lenD S.fl p.2 ≤ 1048576 := fun p hp => by
    have hh : Maps.has S.seen p.1 = true := by
      rw [hes, Maps.has_eq, List.any_eq_true]
      exact ⟨p, hp, WideAt.sameKey_self (hkl p hp)⟩
    obtain ⟨f, hf, e⟩ := h.sn p.1 .nil hh
    have h1 : p.2 = fD f := by
      rw [← e, hes]
      exact (WideAt.atKey_mem .nil (hkl p hp) hap hp).symm
    rw [h1, lenD_fD]
    exact (hF.fs f hf).1
  have htot := sumOf_le S.fl 1048576 es hlen
  have hsz : es.length ≤ 2000000000000 := by
    have h1 := hN.se
    rw [hes] at h1
    exact Nat.le_trans h1 hN.le
  have htot2 : sumOf S.fl es ≤ 2100000000000000000 := Nat.le_trans htot (Nat.le_trans (Nat.mul_le_mul_right 1048576 hsz) (by decide))
  have Htot := Aside0.mk htot2
  have Hcap := Aside0.mk hF.cap
  have HE := Aside0.mk (show sumD S.fl S.seen = sumOf S.fl es by unfold sumD entries; rw [hes])
  have HL0 := Aside0.mk (show sumL S.fl (Maps.has S.seen) es = sumOf S.fl es by rw [hes]; exact sumL_all S.fl es hkl)
  clear h hN hF hpw hap hkl hes hlen htot hsz htot2
  go_enter Try.func23, Try.ntmps23
  go_wp2_with (first
    | (go_at_call 33; refine HM.out.mono ?_; rintro e w1 ⟨rfl, hw⟩; rw [hw]; clear hw w1)
    | (at_range; refine wpList_range_own _ rfl _ 69 rfl 9 75 keyed9 Try.underlying69 rdF S.bs _ _ rfl HF.out.se ?_; intro w2 hrg hgr hsz2; have HRg := Aside0.mk hrg; have HG0 := Aside0.mk hgr; have HS2 := Aside0.mk hsz2; clear hrg hgr hsz2)
    | go_in)
  have HB0 := Aside0.mk (show Below w.heap.size w w2 from (Below.refl _ _).grown HG0.out (Nat.le_refl _) (fun k hk => by cases hk))
  simp only [Act.put, List.setIfInBounds_toArray, List.set_cons_zero, List.set_cons_succ]
  go_loopw [3, 5] (fun nv _ wr => ∃ left cnt, nv = .int .i64 (S.cap - ((sumOf S.fl es - sumL S.fl left es : Nat) : Int)) ∧ Aside0 (wr.ranges Try.prog 9 rdF S.bs w.heap.size _ S.seen left cnt) ∧ Aside0 (∀ k, left k = true → Maps.has S.seen k = true) ∧ Aside0 (Below w.heap.size w wr)) (fun _ _ wr => wr.rangeLeft S.bs w.heap.size)
  case atStart => exact ⟨_, _, by rw [HL0.out, Nat.sub_self]; simp, HRg, ⟨fun _ h => h⟩, HB0⟩
  case round =>
    obtain ⟨left, cnt, rfl, HRg, HLf, HB⟩ := hrel
    go_wp2_with (first
      | (at_next; refine wpList_next_ranges _ rfl _ rfl 9 keyed9 rdF (fun x : Value => x) ptrV (fun key kl hk => ⟨key, rfl⟩) (fun _ _ h => ptr_inv h) S.bs w.heap.size _ S.seen _ _ rfl HRg.out ?_ ?_)
      | go_in)
    · intro _ hl
      have HX := Aside0.mk (show sumL S.fl left es = 0 from sumL_none _ _ hl es)
      clear hl
      go_wp2
      go_ret
      exact ⟨by rw [HX.out, HE.out, Nat.sub_zero]; rfl, HB.out⟩
    · intro x c kl y ym w3 cnt' hkey hlk hy hat hrg1 hlt hg1 hs1 hen
      obtain ⟨f, hf, rfl, hyf⟩ := named_at (y := (y, ym)) HF.out.sn (HLf.out _ hlk) hy hat
      replace hyf : y = fD f := hyf
      obtain ⟨v, hv, hbv⟩ := (HF.out.fi f hf).cs
      obtain ⟨A, cp, rfl, hcp⟩ := hbv.form
      have hb3 : Below w.heap.size w w3 := HB.out.grown hg1 HB.out.size (fun k hk => by injection hk with hk; omega)
      have d0 : w3.cell? ⟨f, 0, none⟩ = some (.slice A (S.fl f).bytes.length cp) := (blk_cell ((hb3.block f (blk_lt hv)).trans hv) 0).trans rfl
      have hst := sum_step S.fl left kl y (keyed9.key hkey) es Hap.out (mem_of_at (by rw [← Hes.out]; exact HLf.out _ hlk) (by rw [← Hes.out]; exact hat)) hlk
      rw [hyf, lenD_fD] at hst
      have hle := sumL_le S.fl left es
      have HB3 := Aside0.mk hb3
      have HR3 := Aside0.mk hrg1
      have HL3 := Aside0.mk (show ∀ k, (left k && !k.sameKey kl) = true → Maps.has S.seen k = true from fun k hk => HLf.out k (by rw [Bool.and_eq_true] at hk; exact hk.1))
      have Hlt := Aside0.mk hlt
      have hT := Htot.out
      have hC := Hcap.out
      have hnew : wrap64 (S.cap - ((sumOf S.fl es - sumL S.fl left es : Nat) : Int) - ((S.fl f).bytes.length : Int)) = S.cap - ((sumOf S.fl es - sumL S.fl (fun z => left z && !z.sameKey kl) es : Nat) : Int) := by
        unfold wrap64
        omega
      have HN := Aside0.mk hnew
      have hlen : ((S.fl f).bytes.length : Int) ≤ 9223372036854775807 := by omega
      clear hb3 hrg1 hlt hg1 hs1 hat hy hlk hkey hst hle hT hC hbv hv hnew
      rw [show ptrV (some f) = Value.pointer (some ⟨f, 0, none⟩) from rfl] at hen ⊢
      go_wp2
      go_roundw
      case rel => exact ⟨_, cnt', by rw [HN.out], HR3, HL3, HB3⟩
      case measure => rw [HR3.out.left_eq, HRg.out.left_eq]; exact Hlt.out
end Go.Proofs.Ytamhecmopnekjaa.Vf
/- vfs: Sync, SyncDir. -/
namespace Go.Proofs.Ytamhecmopnekjaa.Vf
open Go Go.RowKit Go.Maps Go.Proofs.Ytamhecmopnekjaa Go.Proofs.YtamhecmopnekjaaW.PrintWords
set_option linter.unusedVariables false
set_option linter.unusedSimpArgs false

def syncX (x : VFile) : VFile := ⟨x.bytes, x.bytes.length⟩
set_option maxHeartbeats 2000000 in
set_option maxRecDepth 100000 in
theorem sync1_any (w0 : World) (g : Nat) (S : St) (f bx : Nat) (w : World) (h : FsB w0 g S w) (hf : f ∈ S.fb) (hx : w.heap[bx]? = some (.cells #[.pointer (some ⟨f, 0, none⟩)] 75 (0, 0))) (hlen : (S.fl f).bytes.length ≤ 9223372036854775807) :
    Calls Try.prog 40 #[.pointer (some ⟨bx, 0, none⟩)] w fun e w' => e = .returned (.tuple #[]) ∧ FsB w0 g { S with fl := updF S.fl f (syncX (S.fl f)) } w' ∧ KeptT w w' := by
  have huf := Try.underlying78
  have HF := Aside0.mk h
  have Hf := Aside0.mk hf
  obtain ⟨v, hv, hb⟩ := (h.fi f hf).cs
  obtain ⟨A, cp, rfl, hcp⟩ := hb.form
  have b0 : w.cell? ⟨bx, 0, none⟩ = some (.pointer (some ⟨f, 0, none⟩)) := (blk_cell hx 0).trans rfl
  have d0 : w.cell? ⟨f, 0, none⟩ = some (.slice A (S.fl f).bytes.length cp) := (blk_cell hv 0).trans rfl
  have d1 : w.cell? ⟨f, 1, none⟩ = some (.int .i64 ((S.fl f).synced : Int)) := (blk_cell hv 1).trans rfl
  have q1 := blk_frozen hv 1
  have HZ := Aside0.mk (show FsB w0 g { S with fl := updF S.fl f (syncX (S.fl f)) } (w.drew.setCell ⟨f, 1, none⟩ (.int .i64 ((S.fl f).bytes.length : Int))) ∧ KeptT w (w.drew.setCell ⟨f, 1, none⟩ (.int .i64 ((S.fl f).bytes.length : Int))) by
    have hgr := grown_set w.drew f 1 (.int .i64 ((S.fl f).bytes.length : Int))
    have hw : Wr w.drew (w.drew.setCell ⟨f, 1, none⟩ (.int .i64 ((S.fl f).bytes.length : Int))) (fun t => t = TFile) (fun _ => False) := Wr.of_cells hgr (show w.drew.heap[f]? = _ from hv) rfl
    have hr := h.drew.rest.file (x := syncX (S.fl f)) hf ⟨(h.fi f hf).ge, _, blk_put (show w.drew.heap[f]? = _ from hv) 1 _ rfl, hw.bytes (show BytesAt w.drew _ _ _ from hb) (by decide)⟩ hgr
    exact ⟨hr.full h.gB ((hw.cs g _ _ _ h.drew.fs (by decide)).trans h.drew.fs), (KeptT.of_below (below_drew1 (Below.refl _ _))).trans (hw.kept (fun t ht => .inr (.inl ht)))⟩)
  clear h hf hv hb hx hcp
  generalize (S.fl f).bytes.length = n at *
  go_enter Try.func40, Try.ntmps40
  go_wp2
  go_region
  all_goals go_end0
  all_goals exact ⟨rfl, HZ.out⟩
def syncE (S : St) (s : ByteArray) : Int := if (look S.seen s).isSome = true then 0 else 4
set_option maxHeartbeats 2000000 in
set_option maxRecDepth 100000 in
theorem sync_any (w0 : World) (g : Nat) (S : St) (s : ByteArray) (w : World) (h : FsB w0 g S w) (hF : FilesOk S) (hs : s.size ≤ 9223372036854775807) :
    Calls Try.prog 13 #[.pointer (some ⟨g, 0, none⟩), .string s] w fun e w' =>
      (syncE S s = 4 ∧ e = .returned (.int .i64 4) ∧ FsB w0 g S w' ∧ KeptT w w') ∨
      (syncE S s = 0 ∧ ∃ f, look S.seen s = some f ∧ OutK w0 g S w (fun w' => ∃ o' nth', FsB w0 g { S with o := o', nth := nth', fl := updF S.fl f (syncX (S.fl f)) } w') e w') := by
  have hu := Try.underlying73
  have HF := Aside0.mk h
  have hml : s.size ≤ maxLen := by unfold maxLen; omega
  have HM := Aside0.mk (made_some g S.bs w (h.cell 1 _ rfl))
  have hr := run_look h.se h.sn hml
  have hc1 := h.cell 1 (.map (some S.bs)) rfl
  have hmf : ∀ (fn : Fn) (first cap : Array Value) (w : World), (Instr.makeFunc fn first cap).run Try.prog w = .ok (.func fn first cap) w := fun _ _ _ _ => rfl
  rcases hl : look S.seen s with _ | f
  · rw [hl] at hr
    simp only [ptrV, Option.map_none] at hr
    have HE := Aside0.mk (show syncE S s = 4 by unfold syncE; rw [hl]; rfl)
    clear h hs hl hml hF
    go_enter Try.func13, Try.ntmps13
    go_wp2_with (go_at_call 33; refine HM.out.mono ?_; rintro e w1 ⟨rfl, hw⟩; rw [hw]; clear hw w1)
    go_ret
    exact .inl ⟨HE.out, rfl, HF.out.alloc _, KeptT.of_below (below_alloc (Below.refl _ _) _)⟩
  · have HL := Aside0.mk hl
    rw [hl] at hr
    simp only [ptrV, Option.map_some] at hr
    have HE := Aside0.mk (show syncE S s = 0 by unfold syncE; rw [hl]; rfl)
    have hf := (look_mem h.sn hl).1
    have hb1 : Below w.heap.size w (w.alloc (.cells #[.pointer (some ⟨f, 0, none⟩)] 75)) := (Below.refl _ _).alloc (Nat.le_refl _) _
    have hbx := heap_alloc_new w (.cells #[.pointer (some ⟨f, 0, none⟩)] 75)
    have hcf : ∀ (caps : Array Value) (w : World), (callFunc 40 caps).run Try.prog w = .ok (.enter 40 caps) w := fun caps w => by go_simp
    have HD := Aside0.mk (does_any w0 g S 3 40 #[.pointer (some ⟨w.heap.size, 0, none⟩)] _ (fun w' => KeptT w w' ∧ ∃ o' nth', FsB w0 g { S with o := o', nth := nth', fl := updF S.fl f (syncX (S.fl f)) } w') (h.below hb1) (by decide) (hcf _) (fun o' nth' w1 hf1 hb => by
      have hlt := blk_lt h.fs
      have hbn := h.nt.lt
      have n1 := (hb.2 w.heap.size (blk_lt hbx) (by omega) (by omega)).trans hbx
      refine (sync1_any w0 g { S with o := o', nth := nth' } f w.heap.size w1 hf1 hf n1 (by have := (hF.fs f hf).1; show (S.fl f).bytes.length ≤ _; omega)).mono ?_
      rintro e w2 ⟨rfl, hf2, hk2⟩
      exact ⟨rfl, ((KeptT.of_below hb1).trans (hb.kept (h.below hb1) rfl)).trans hk2, o', nth', hf2⟩))
    have HB := Aside0.mk hb1
    clear h hs hl hml hF hf hb1 hbx hcf
    go_enter Try.func13, Try.ntmps13
    go_wp2_with (first
      | (go_at_call 33; refine HM.out.mono ?_; rintro e w1 ⟨rfl, hw⟩; rw [hw]; clear hw w1)
      | (go_at_call 37; refine HD.out.mono ?_; rintro e w1 ho; rcases ho with ⟨rfl, hk, hp⟩ | ⟨rfl, hne, ⟨hk, hp⟩ | ⟨o', nth', hf, hb⟩⟩))
    all_goals go_ret
    · exact .inr ⟨HE.out, f, rfl, hk, .inl ⟨rfl, hp⟩⟩
    · exact .inr ⟨HE.out, f, rfl, hk, .inr ⟨rfl, hne, .inl hp⟩⟩
    · exact .inr ⟨HE.out, f, rfl, (KeptT.of_below HB.out).trans (hb.kept (HF.out.below HB.out) rfl), .inr ⟨rfl, hne, .inr ⟨o', nth', hf⟩⟩⟩
/-- The directory lasts. -/
def dirS (S : St) (b : Nat) : St := { S with bl := b, lasts := S.seen, pv := .slice none 0 0, pend := [] }
theorem FsR.dir {w0 w w' : World} {S : St} (h : FsR w0 S w) (hb : Below w.heap.size w w') {b : Nat} (hge : w.heap.size ≤ b) (ho : w'.ownsMap Try.prog 9 rdF b (Maps.size S.seen) S.seen) : FsR w0 (dirS S b) w' := by
  have h1 := h.wr (T := fun _ => False) (M := fun _ => False) (Wr.of_below hb) (h.be.trans (hb.mono h.be.size)) id id id id id id id
  have l1 := h.se.lt
  have l2 := h.nt.lt
  exact {
    be := h1.be
    se := h1.se
    la := ho
    nt := h1.nt
    bB := ⟨h.bB.1, Nat.le_trans h.be.size hge, h.bB.2.2⟩
    ne := ⟨by show S.bs ≠ b; omega, h.ne.2.1, by show b ≠ S.bn; omega⟩
    pe := Kd.R_nil _ _ _ _ _
    fa := h1.fa
    fi := h1.fi
    sn := h.sn
    ln := h.sn
    pn := fun t ht => by cases ht
    nb := h.nb }
set_option maxHeartbeats 2000000 in
set_option maxRecDepth 100000 in
theorem syncdir1_any (w0 : World) (g : Nat) (S : St) (bx : Nat) (w : World) (h : FsB w0 g S w) (hx : w.heap[bx]? = some (.cells #[.pointer (some ⟨g, 0, none⟩)] 27 (0, 0))) :
    Calls Try.prog 41 #[.pointer (some ⟨bx, 0, none⟩)] w fun e w' => e = .returned (.tuple #[]) ∧ ∃ b, FsB w0 g (dirS S b) w' ∧ KeptT w w' := by
  have hu := Try.underlying73
  have HF := Aside0.mk h
  have b0 : w.cell? ⟨bx, 0, none⟩ = some (.pointer (some ⟨g, 0, none⟩)) := (blk_cell hx 0).trans rfl
  have c1 : w.cell? ⟨g, 1, none⟩ = some (.map (some S.bs)) := h.cell 1 _ rfl
  have HCl := Aside0.mk (Try.maps_Clone_owns 9 rdF S.bs (Maps.size S.seen) S.seen w.drew h.drew.se)
  have Hx := Aside0.mk (show ∀ wx, Below w.drew.heap.size w.drew wx → wx.heap[bx]? = some (.cells #[.pointer (some ⟨g, 0, none⟩)] 27 (0, 0)) from fun wx hb => (hb.block bx (blk_lt (show w.drew.heap[bx]? = _ from hx))).trans hx)
  have Hn1 := Aside0.mk (show (⟨g, 2, none⟩ : Addr) ≠ ⟨bx, 0, none⟩ from fun e => by injection e with e _; exact blk_ne h.fs hx (by decide) e)
  have Hn2 := Aside0.mk (show (⟨g, 2, none⟩ : Addr) ≠ ⟨g, 1, none⟩ from fun e => by injection e with _ e; cases e)
  clear h hx
  go_enter Try.func41, Try.ntmps41
  go_wp2
  go_region_held3 (fun w2 => w2.cell? ⟨bx, 0, none⟩ = some (.pointer (some ⟨g, 0, none⟩)) ∧ w2.cell? ⟨g, 1, none⟩ = some (.map (some S.bs))) (first | exact ⟨b0, c1⟩ | exact ⟨x0, x1⟩ | exact ⟨y0, y1⟩ | go_keep) ((go_at_call 42; refine (HCl.out).mono ?_; rintro e wx ⟨rfl, ho, ho2, hb⟩; have x0 : wx.cell? ⟨bx, 0, none⟩ = some (.pointer (some ⟨g, 0, none⟩)) := (blk_cell (Hx.out wx hb) 0).trans rfl; have x1 : wx.cell? ⟨g, 1, none⟩ = some (.map (some S.bs)) := (HF.out.drew.below hb).cell 1 _ rfl; have x2 : wx.cell? ⟨g, 2, none⟩ = some (.map (some S.bl)) := (HF.out.drew.below hb).cell 2 _ rfl; have q2 := blk_frozen (HF.out.drew.below hb).fs 2; have y0 := (World.cell?_setCell_other wx ⟨g, 2, none⟩ ⟨bx, 0, none⟩ (.map (some w.heap.size)) Hn1.out).trans x0; have y1 := (World.cell?_setCell_other wx ⟨g, 2, none⟩ ⟨g, 1, none⟩ (.map (some w.heap.size)) Hn2.out).trans x1; have HO := Aside0.mk ho; have HB := Aside0.mk hb; clear ho ho2 hb))
  have hg0 := (HF.out.drew.below HB.out).fs
  have hg1 := blk_put hg0 2 (.map (some w.heap.size)) rfl
  have c3 : (wx.setCell ⟨g, 2, none⟩ (.map (some w.heap.size))).cell? ⟨g, 3, none⟩ = some S.pv := (blk_cell hg1 3).trans rfl
  have q3 := blk_frozen hg1 3
  have hr := HF.out.drew.rest.dir HB.out (Nat.le_refl _) HO.out
  have hr1 := hr.own (grown_set wx g 2 (.map (some w.heap.size))) hg0 HF.out.gB
  have hr2 := hr1.own (grown_set (wx.setCell ⟨g, 2, none⟩ (.map (some w.heap.size))) g 3 (.slice none 0 0)) hg1 HF.out.gB
  have HZ := Aside0.mk (hr2.full HF.out.gB (blk_put hg1 3 (.slice none 0 0) rfl))
  have HK := Aside0.mk ((((KeptT.of_below (below_drew1 (Below.refl w.heap.size w))).trans (KeptT.of_below HB.out)).trans (KeptT.fs (grown_set wx g 2 (.map (some w.heap.size))) hg0)).trans (KeptT.fs (grown_set (wx.setCell ⟨g, 2, none⟩ (.map (some w.heap.size))) g 3 (.slice none 0 0)) hg1))
  clear hg0 hg1 hr hr1 hr2
  go_wp2
  go_end0
  exact ⟨rfl, _, HZ.out, HK.out⟩
set_option maxHeartbeats 2000000 in
set_option maxRecDepth 100000 in
theorem syncdir_any (w0 : World) (g : Nat) (S : St) (w : World) (h : FsB w0 g S w) :
    Calls Try.prog 14 #[.pointer (some ⟨g, 0, none⟩)] w fun e w' => OutK w0 g S w (fun w' => ∃ b o' nth', FsB w0 g { dirS S b with o := o', nth := nth' } w') e w' := by
  have hu := Try.underlying73
  have HF := Aside0.mk h
  have hb1 : Below w.heap.size w (w.alloc (.cells #[.pointer (some ⟨g, 0, none⟩)] 27)) := (Below.refl _ _).alloc (Nat.le_refl _) _
  have HM := Aside0.mk (made_some g S.bs _ ((h.below hb1).cell 1 _ rfl))
  have hmf : ∀ (fn : Fn) (first cap : Array Value) (w : World), (Instr.makeFunc fn first cap).run Try.prog w = .ok (.func fn first cap) w := fun _ _ _ _ => rfl
  have hbx := heap_alloc_new w (.cells #[.pointer (some ⟨g, 0, none⟩)] 27)
  have hcf : ∀ (caps : Array Value) (w : World), (callFunc 41 caps).run Try.prog w = .ok (.enter 41 caps) w := fun caps w => by go_simp
  have HD := Aside0.mk (does_any w0 g S 6 41 #[.pointer (some ⟨w.heap.size, 0, none⟩)] _ (fun w' => KeptT w w' ∧ ∃ b o' nth', FsB w0 g { dirS S b with o := o', nth := nth' } w') (h.below hb1) (by decide) (hcf _) (fun o' nth' w1 hf1 hb => by
    have hlt := blk_lt h.fs
    have hbn := h.nt.lt
    have n1 := (hb.2 w.heap.size (blk_lt hbx) (by omega) (by omega)).trans hbx
    refine (syncdir1_any w0 g { S with o := o', nth := nth' } w.heap.size w1 hf1 n1).mono ?_
    rintro e w2 ⟨rfl, b, hf2, hk2⟩
    exact ⟨rfl, ((KeptT.of_below hb1).trans (hb.kept (h.below hb1) rfl)).trans hk2, b, o', nth', hf2⟩))
  have HB := Aside0.mk hb1
  clear h hb1 hbx hcf
  go_enter Try.func14, Try.ntmps14
  go_wp2_with (first
    | (go_at_call 33; refine HM.out.mono ?_; rintro e w1 ⟨rfl, hw⟩; rw [hw]; clear hw w1)
    | (go_at_call 37; refine HD.out.mono ?_; rintro e w1 ho; rcases ho with ⟨rfl, hk, hp⟩ | ⟨rfl, hne, ⟨hk, hp⟩ | ⟨o', nth', hf, hb⟩⟩))
  all_goals go_ret
  · exact ⟨hk, .inl ⟨rfl, hp⟩⟩
  · exact ⟨hk, .inr ⟨rfl, hne, .inl hp⟩⟩
  · exact ⟨(KeptT.of_below HB.out).trans (hb.kept (HF.out.below HB.out) rfl), .inr ⟨rfl, hne, .inr ⟨o', nth', hf⟩⟩⟩
end Go.Proofs.Ytamhecmopnekjaa.Vf
