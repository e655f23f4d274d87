/- vfs: Read from the begin of a file, without faults; Pending; has. -/
import Derived.Test.YtamhecmopnekjaaVfGG
import Derived.Test.YtamhecmopnekjaaVfR
import Derived.Lib.SlBytesConst
import Derived.Laws.Rows
import Derived.Test.YtamhecmopnekjaaTy
namespace Go.Proofs.Ytamhecmopnekjaa.Vf
open Go Go.RowKit Go.Maps Go.Proofs.Ytamhecmopnekjaa Go.Proofs.YtamhecmopnekjaaW.PrintWords
set_option linter.unusedVariables false
set_option linter.unusedSimpArgs false

set_option maxHeartbeats 1000000 in
set_option maxRecDepth 100000 in
theorem pending_any (w0 : World) (g : Nat) (S : St) (w : World) (h : FsB w0 g S w) :
    Calls Try.prog 25 #[.pointer (some ⟨g, 0, none⟩)] w fun e w' => e = .returned (.int .i64 (S.pend.length : Int)) ∧ w' = w := by
  have hu := Try.underlying73
  have HM := Aside0.mk (made_some g S.bs w (h.cell 1 _ rfl))
  obtain ⟨Ap, cap, hpv, hple, hpC⟩ := Kd.R_reads h.pe
  have c3 : w.cell? ⟨g, 3, none⟩ = some (.slice Ap S.pend.length cap) := (h.cell 3 _ rfl).trans (congrArg some hpv)
  have hm := hpC.2.1
  clear h hpv hpC hple
  go_enter Try.func25, Try.ntmps25
  go_wp2_with (go_at_call 33; refine HM.out.mono ?_; rintro e w1 ⟨rfl, hw⟩; rw [hw]; clear hw w1)
  go_ret
  exact ⟨rfl, rfl⟩
set_option maxHeartbeats 1000000 in
set_option maxRecDepth 100000 in
theorem read1_any (w : World) : Calls Try.prog 47 #[] w fun e w' => e = .returned (.tuple #[]) ∧ w' = w := by
  go_enter Try.func47, Try.ntmps47
  go_wp2
  go_end0
  exact ⟨rfl, rfl⟩
set_option maxHeartbeats 4000000 in
set_option maxRecDepth 100000 in
theorem read_any (w0 : World) (g : Nat) (S : St) (s : ByteArray) (f n : Nat) (w : World) (h : FsB w0 g S w) (hF : FilesOk S) (hc : S.flts = []) (hs : s.size ≤ 9223372036854775807) (hf : look S.seen s = some f) (hn : n ≤ (S.fl f).bytes.length) :
    Calls Try.prog 26 #[.pointer (some ⟨g, 0, none⟩), .string s, .int .i64 0, .int .i64 (n : Int)] w fun e w' => ∃ v o' nth', e = .returned (.tuple #[v, .int .i64 0]) ∧ BytesAt w' w0.heap.size v ((S.fl f).bytes.take n) ∧ FsB w0 g { S with o := o', nth := nth' } w' := by
  have hu := Try.underlying73
  have huf := Try.underlying78
  have HF := Aside0.mk h
  have HM := Aside0.mk (made_some g S.bs w (h.cell 1 _ rfl))
  have hml : s.size ≤ maxLen := by unfold maxLen; omega
  have hr := run_look h.se h.sn hml
  rw [hf] at hr
  simp only [ptrV, Option.map_some] at hr
  have hc1 := h.cell 1 (.map (some S.bs)) rfl
  have hfm := (look_mem h.sn hf).1
  have hfl := (hF.fs f hfm).1
  have hcell : ∀ (w1 : World) (S1 : St), FsB w0 g S1 w1 → S1.fb = S.fb → S1.fl = S.fl → ∃ A c, w1.cell? ⟨f, 0, none⟩ = some (.slice A (S.fl f).bytes.length c) ∧ (S.fl f).bytes.length ≤ c ∧ c ≤ maxLen ∧ BytesAt w1 w0.heap.size (.slice A (S.fl f).bytes.length c) (S.fl f).bytes ∧ (A = none → (S.fl f).bytes.length = 0 ∧ c = 0) := fun w1 S1 h1 e1 e2 => by
    obtain ⟨v, hv, hb⟩ := (h1.fi f (by rw [e1]; exact hfm)).cs
    rw [e2] at hv hb
    rcases hb with ⟨rfl, hb⟩ | ⟨k, c', cur, fz, e', h1, h2, h3, h4, h5⟩
    · rw [hb]
      refine ⟨none, 0, (blk_cell hv 0).trans rfl, Nat.le_refl _, by decide, .inl ⟨rfl, rfl⟩, fun _ => ⟨rfl, rfl⟩⟩
    · subst e'
      exact ⟨_, c', (blk_cell hv 0).trans rfl, h1, h2, .inr ⟨k, c', cur, fz, rfl, h1, h2, h3, h4, h5⟩, fun h => by cases h⟩
  obtain ⟨A, c, d0, hlc, _⟩ := hcell w S h rfl rfl
  have hcf : ∀ (caps : Array Value) (w : World), (callFunc 47 caps).run Try.prog w = .ok (.enter 47 caps) w := fun caps w => by go_simp
  have HD := Aside0.mk (does_any w0 g S 7 47 #[] w (fun w' => ∃ o' nth', FsB w0 g { S with o := o', nth := nth' } w') h (by decide) (hcf _) (fun o' nth' w1 hf1 hb => (read1_any w1).mono fun e w2 ⟨he, hw⟩ => ⟨he, by subst hw; exact ⟨o', nth', hf1⟩⟩))
  have HD2 := Aside0.mk (HD.out.mono (R' := fun e w' => e = .returned (.int .i64 0) ∧ ∃ o' nth' A1 c1, FsB w0 g { S with o := o', nth := nth' } w' ∧ w'.cell? ⟨f, 0, none⟩ = some (.slice A1 (S.fl f).bytes.length c1) ∧ (S.fl f).bytes.length ≤ c1 ∧ BytesAt w' w0.heap.size (.slice A1 (S.fl f).bytes.length c1) (S.fl f).bytes ∧ (A1 = none → (S.fl f).bytes.length = 0 ∧ c1 = 0)) (fun e w' ho => by
    rcases ho with ⟨rfl, o', nth', hp⟩ | ⟨_, hne, _⟩
    · obtain ⟨A1, c1, k0, hk1, _, hk3, hk4⟩ := hcell w' _ hp rfl rfl
      exact ⟨rfl, o', nth', A1, c1, hp, k0, hk1, hk3, hk4⟩
    · exact absurd hc hne))
  have HCl := Aside0.mk (fun (w1 : World) (A1 : Option Addr) (c1 : Nat) (hb : BytesAt w1 w0.heap.size (.slice A1 (S.fl f).bytes.length c1) (S.fl f).bytes) (hA : A1 = none → (S.fl f).bytes.length = 0 ∧ c1 = 0) => clone_row A1 n c1 ((S.fl f).bytes.take n) w1 ((hb.take n hn).reads) (by omega))
  have HC := Aside0.mk hc
  have hln : ((S.fl f).bytes.length : Int) ≤ 1048576 := by omega
  have hn1 : (n : Int) ≤ ((S.fl f).bytes.length : Int) := by omega
  have hn0 : ¬ ((n : Int) < 0) := by omega
  have p1 : decide ((n : Int) < 0) = false := decide_eq_false hn0
  have p2 : decide (((S.fl f).bytes.length : Int) < 0) = false := decide_eq_false (by omega)
  have p3 : decide (((S.fl f).bytes.length : Int) < (n : Int)) = false := decide_eq_false (by omega)
  have Hl2 := Aside0.mk (show n ≤ (S.fl f).bytes.length from hn)
  clear h hF hc hs hml hf hfm hfl hcell hcf hlc hn
  generalize hL : (S.fl f).bytes.length = ln at *
  have HL := Aside0.mk hL
  clear hL
  go_enter Try.func26, Try.ntmps26
  go_wp2_with (first
    | (go_at_call 33; refine HM.out.mono ?_; rintro e w1 ⟨rfl, hw⟩; rw [hw]; clear hw w1)
    | (go_at_call 37; go_loud (refine HD2.out.mono ?_; rintro e w1 ho; obtain ⟨rfl, o', nth', A1, c1, hp, k0, hk1, hk3, hk4⟩ := ho; have HP := Aside0.mk hp; have HK3 := Aside0.mk hk3; have HK4 := Aside0.mk hk4; have hk5 : (n : Int) ≤ (c1 : Int) := (by omega); clear hp hk3 hk4))
    | (go_at_call 36; refine (HCl.out _ _ _ HK3.out HK4.out).mono ?_; rintro e w3 ⟨v, rfl, hrow, hb⟩; have HRow := Aside0.mk hrow; have HB := Aside0.mk hb; clear hrow hb))
  go_ret2
  exact ⟨v, o', nth', rfl, (bytesAt_of_R HRow.out).lower (HP.out.be.size), HP.out.below HB.out⟩
end Go.Proofs.Ytamhecmopnekjaa.Vf
/- vfs: lives: the steps of one file's life, each by its contract. -/
namespace Go.Proofs.Ytamhecmopnekjaa.Vf
open Go Go.RowKit Go.Maps Go.Proofs.Ytamhecmopnekjaa Go.Proofs.YtamhecmopnekjaaW.PrintWords
set_option linter.unusedVariables false
set_option linter.unusedSimpArgs false

theorem OutK.clean {w0 w w' : World} {g : Nat} {S : St} {Post : World → Prop} {e : Ending} (h : OutK w0 g S w Post e w') (hc : S.flts = []) : e = .returned (.int .i64 0) ∧ KeptT w w' ∧ Post w' := by
  rcases h.2 with ⟨he, hp⟩ | ⟨_, hne, _⟩
  · exact ⟨he, h.1, hp⟩
  · exact absurd hc hne
def nmA : ByteArray := ⟨#[97]⟩
def oneD (b : Nat) : Dt := .map [(key nmA, fD b)]
/-- One file, of the name a. -/
structure LS (S : St) (b : Nat) (x : VFile) (p : List Turn) (la : Dt) : Prop where
  seen : S.seen = oneD b
  flts : S.flts = []
  fl : S.fl b = x
  cap : S.cap = 100
  fb : S.fb = [b]
  pend : S.pend = p
  lasts : S.lasts = la
theorem look_one (b : Nat) : look (oneD b) nmA = some b := look_fD rfl
theorem LS.small {S : St} {b : Nat} {x : VFile} {p : List Turn} {la : Dt} (h : LS S b x p la) (hp : p.length + Maps.size la ≤ 10) : Small S 10 := ⟨by rw [h.seen]; show 1 ≤ 10; decide, by rw [h.lasts, h.pend]; omega, by decide⟩
theorem LS.files {S : St} {b : Nat} {x : VFile} {p : List Turn} {la : Dt} (h : LS S b x p la) (hx : x.bytes.length ≤ 100 ∧ x.synced ≤ x.bytes.length) : FilesOk S := ⟨by rw [h.cap]; decide, fun k hk => by
  rw [h.fb] at hk
  obtain rfl := List.mem_singleton.1 hk
  rw [h.fl]
  omega⟩
theorem sum_one {S : St} {b : Nat} {x : VFile} {p : List Turn} {la : Dt} (h : LS S b x p la) : sumD S.fl S.seen = x.bytes.length := by
  rw [h.seen]
  show sumOf S.fl [(key nmA, fD b)] = _
  rw [sumOf_cons, lenD_fD, h.fl]
  rfl
theorem live_create (w0 : World) (cap h0 : Nat) (w : World) (g : Nat) (hcap : cap = 100) (h : FsB w0 g (st0 (cap : Int) h0) w) :
    Calls Try.prog 11 #[.pointer (some ⟨g, 0, none⟩), .string nmA] w fun e w' => e = .returned (.int .i64 0) ∧ ∃ S b, FsB w0 g S w' ∧ LS S b ⟨[], 0⟩ [createT nmA b] (.map []) := by
  subst hcap
  refine (create_any w0 g _ 10 nmA w h ⟨show (0 : Nat) ≤ 10 by decide, show (0 : Nat) + 0 ≤ 10 by decide, by decide⟩ (by decide)).mono ?_
  rintro e w' (⟨hne, _⟩ | ⟨_, b, hb, ho⟩)
  · exact absurd (show createE (st0 ((100 : Nat) : Int) h0) nmA = 0 from by unfold createE; rw [if_pos (by decide)]; rfl) hne
  · obtain ⟨he, hk, o', nth', pv', hf⟩ := ho.clean rfl
    refine ⟨he, _, b, hf, ⟨?_, rfl, ?_, rfl, rfl, rfl, rfl⟩⟩
    · show onD (createT nmA b) (.map []) = oneD b
      unfold onD
      rw [if_pos (show (createT nmA b).op = 1 from rfl)]
      rfl
    · exact updF_same _ _ _
theorem live_append (w0 : World) (g : Nat) (S : St) (b : Nat) (x : VFile) (p : List Turn) (la : Dt) (A : Option Addr) (c : Nat) (M : List UInt8) (w : World) (h : FsB w0 g S w) (hL : LS S b x p la) (hp : p.length + Maps.size la ≤ 10) (hx : x.bytes.length ≤ 50 ∧ x.synced ≤ x.bytes.length) (hM : M.length ≤ 10) (HR : ReadsInt w .u8 A M.length (nb M)) (hnc : M.length ≤ c) :
    Calls Try.prog 12 #[.pointer (some ⟨g, 0, none⟩), .string nmA, .slice A M.length c] w fun e w' => e = .returned (.int .i64 0) ∧ ∃ S', FsB w0 g S' w' ∧ LS S' b ⟨x.bytes ++ M, x.synced⟩ p la := by
  refine (append_any w0 g S 10 nmA A c M w h (hL.small hp) (hL.files ⟨by omega, hx.2⟩) (by decide) HR hnc (by omega)).mono ?_
  have hlk : look S.seen nmA = some b := by rw [hL.seen]; exact look_one b
  have hE : appendE S nmA M.length = 0 := by
    unfold appendE
    rw [hlk]
    simp only [hL.fl, sum_one hL, hL.cap]
    rw [if_neg (by omega), if_neg (by omega)]
  rintro e w' (⟨hne, _⟩ | ⟨_, f, hf, ho⟩)
  · exact absurd hE hne
  · rw [hlk] at hf
    injection hf with hf
    subst hf
    obtain ⟨he, hk, o', nth', hf⟩ := ho.clean hL.flts
    refine ⟨he, _, hf, ⟨hL.seen, hL.flts, ?_, hL.cap, hL.fb, hL.pend, hL.lasts⟩⟩
    show updF S.fl b (appX (S.fl b) M) b = _
    rw [updF_same, hL.fl]
    rfl
theorem live_sync (w0 : World) (g : Nat) (S : St) (b : Nat) (x : VFile) (p : List Turn) (la : Dt) (w : World) (h : FsB w0 g S w) (hL : LS S b x p la) (hp : p.length + Maps.size la ≤ 10) (hx : x.bytes.length ≤ 50 ∧ x.synced ≤ x.bytes.length) :
    Calls Try.prog 13 #[.pointer (some ⟨g, 0, none⟩), .string nmA] w fun e w' => e = .returned (.int .i64 0) ∧ ∃ S', FsB w0 g S' w' ∧ LS S' b ⟨x.bytes, x.bytes.length⟩ p la := by
  refine (sync_any w0 g S nmA w h (hL.files ⟨by omega, hx.2⟩) (by decide)).mono ?_
  have hlk : look S.seen nmA = some b := by rw [hL.seen]; exact look_one b
  have hE : syncE S nmA = 0 := by unfold syncE; rw [hlk]; rfl
  rintro e w' (⟨hne, _⟩ | ⟨_, f, hf, ho⟩)
  · rw [hE] at hne; cases hne
  · rw [hlk] at hf
    injection hf with hf
    subst hf
    obtain ⟨he, hk, o', nth', hf⟩ := ho.clean hL.flts
    refine ⟨he, _, hf, ⟨hL.seen, hL.flts, ?_, hL.cap, hL.fb, hL.pend, hL.lasts⟩⟩
    show updF S.fl b (syncX (S.fl b)) b = _
    rw [updF_same, hL.fl]
    rfl
theorem live_dir (w0 : World) (g : Nat) (S : St) (b : Nat) (x : VFile) (p : List Turn) (la : Dt) (w : World) (h : FsB w0 g S w) (hL : LS S b x p la) :
    Calls Try.prog 14 #[.pointer (some ⟨g, 0, none⟩)] w fun e w' => e = .returned (.int .i64 0) ∧ ∃ S', FsB w0 g S' w' ∧ LS S' b x [] (oneD b) := by
  refine (syncdir_any w0 g S w h).mono ?_
  intro e w' ho
  obtain ⟨he, hk, b2, o', nth', hf⟩ := ho.clean hL.flts
  exact ⟨he, _, hf, ⟨hL.seen, hL.flts, hL.fl, hL.cap, hL.fb, rfl, hL.seen⟩⟩
theorem names_one (b : Nat) : names (oneD b) = [nmA] := by
  unfold names oneD
  show ((List.mergeSort [[97]] leB).map fun l => (⟨l.toArray⟩ : ByteArray)) = [nmA]
  rw [List.mergeSort_singleton]
  rfl
theorem live_crash (w0 : World) (g : Nat) (S : St) (b : Nat) (x : VFile) (A : Option Addr) (c : Nat) (k : Int) (w : World) (h : FsB w0 g S w) (hL : LS S b x [] (oneD b)) (hx : x.bytes.length ≤ 50 ∧ x.synced ≤ x.bytes.length) (hk0 : 0 ≤ k) (hK : ∀ w', Below w0.heap.size w0 w' → KeptT w w' → ReadsInt w' .i64 A [k].length [k]) (hkc : [k].length ≤ c) :
    Calls Try.prog 16 #[.pointer (some ⟨g, 0, none⟩), .agg #[.int .i64 0, .slice A [k].length c]] w fun e w' => e = .returned (.int .i64 0) ∧ ∃ S', FsB w0 g S' w' ∧ LS S' b (crashX x (moreX x (some k))) [] (oneD b) := by
  refine (crash_any w0 g S 10 0 A c [k] w h (hL.small (show 0 + 1 ≤ 10 by decide)) (hL.files ⟨by omega, hx.2⟩) hK hkc).mono ?_
  have hE : crashBad S 0 [k] = false := by
    unfold crashBad below0
    rw [hL.pend]
    simp
    exact hk0
  rintro e w' ⟨_, ⟨hne, _⟩ | ⟨_, he, bs, bn, hf⟩⟩
  · rw [hE] at hne; cases hne
  · have hD : playD (S.pend.take (0 : Int).toNat) S.lasts = oneD b := by rw [hL.pend, hL.lasts]; rfl
    refine ⟨he, _, hf, ⟨hD, rfl, ?_, hL.cap, hL.fb, rfl, hD⟩⟩
    show crashFl (playD (S.pend.take (0 : Int).toNat) S.lasts) [k] S.fl (names (playD (S.pend.take (0 : Int).toNat) S.lasts)).length b = _
    rw [hD, names_one]
    show updF S.fl ((look (oneD b) ((names (oneD b)).getD 0 ByteArray.empty)).getD 0) _ b = _
    rw [names_one]
    show updF S.fl ((look (oneD b) nmA).getD 0) (crashX (S.fl ((look (oneD b) nmA).getD 0)) (moreX (S.fl ((look (oneD b) nmA).getD 0)) (some k))) b = _
    rw [look_one]
    show updF S.fl b _ b = _
    rw [updF_same]
    show crashX (S.fl b) (moreX (S.fl b) (some k)) = _
    rw [hL.fl]
end Go.Proofs.Ytamhecmopnekjaa.Vf
/- vfs: lives. -/
namespace Go.Proofs.Ytamhecmopnekjaa.Vf
open Go Go.RowKit Go.Maps Go.Proofs.Ytamhecmopnekjaa Go.Proofs.YtamhecmopnekjaaW.PrintWords
set_option linter.unusedVariables false
set_option linter.unusedSimpArgs false

set_option maxRecDepth 100000 in
theorem litR (w : World) (cs : Array Value) (fz : Nat × Nat) (L : List UInt8) (h : cs.toList = L.map fun c => Value.int .u8 (c.toNat : Int)) (hl : L.length ≤ 100) : ReadsInt (w.alloc (.cells cs 5 fz)) .u8 (some ⟨w.heap.size, 0, none⟩) L.length (nb L) := by
  refine ⟨nb_len L, by omega, fun _ => ⟨_, rfl, fun j hj => ?_⟩⟩
  rw [add_lit0, World.cell?, heap_alloc_new w _]
  show cs[j]? = _
  rw [← Array.getElem?_toList, h, List.getElem?_map, List.getElem?_eq_getElem hj, List.getD_eq_getElem?_getD]
  unfold nb
  rw [List.getElem?_map, List.getElem?_eq_getElem hj]
  rfl
set_option maxRecDepth 100000 in
theorem keep1 (w w' : World) (h : KeptT (w.alloc (.cells #[.int .i64 1] 3)) w') : ReadsInt w' .i64 (some ⟨w.heap.size, 0, none⟩) [(1 : Int)].length [1] := by
  refine ⟨rfl, by decide, fun _ => ⟨_, rfl, fun j hj => ?_⟩⟩
  have hj0 : j = 0 := by simp at hj; omega
  subst hj0
  have h1 := h.2 w.heap.size _ _ _ (heap_alloc_new w (.cells #[.int .i64 1] 3)) (by decide) (by decide) (by decide)
  rw [add_lit0]
  exact (blk_cell h1 0).trans rfl
set_option maxRecDepth 100000 in
theorem bytes_text {w : World} {B : Nat} {A : Option Addr} {n c : Nat} {L : List UInt8} (h : BytesAt w B (.slice A n c) L) (hn : 0 < n) : (convert 22 9 (.slice A n c)).run Try.prog w = .ok (.string ⟨L.toArray⟩) w := by
  rcases h with ⟨e, _⟩ | ⟨k, c', cur, fz, e, h1, h2, h3, h4, h5⟩
  · injection e with _ e _
    omega
  · injection e with e1 e2 e3
    subst e1 e2
    have hcv := run_convert_bytes_arg (P := Try.prog) w 22 5 Try.underlying22 Try.underlying5 k 0 L.length c (L.map fun c => (c.toNat : Int)) (by rw [List.length_map]) (fun i hi => by
      rw [Nat.zero_add, World.cell?, h4]
      show cur[i]? = _
      rw [h5 i hi, List.getD_eq_getElem?_getD, List.getD_eq_getElem?_getD, List.getElem?_map, List.getElem?_eq_getElem hi]; rfl) 9 Try.underlying9
    rw [← row_str]
    exact hcv
set_option maxHeartbeats 4000000 in
set_option maxRecDepth 100000 in
theorem lives_any (w : World) : Calls Try.prog 9 #[] w fun e w' => e = .returned (.bool true) ∧ Below w.heap.size w w' := by
  have huc := Try.underlying25
  have kc := fun (w : World) (C : Array Value) (n c : Nat) => Lib.run_convert_bytes_const (P := Try.prog) w 22 5 C n c Try.underlying22 Try.underlying5
  have hse : ((⟨#[120, 121, 122, 117]⟩ : ByteArray).toList == (⟨#[120, 121, 122, 117]⟩ : ByteArray).toList) = true := beq_self_eq_true _
  go_enter Try.func9, Try.ntmps9
  go_wp2_with (first
    | (go_at_call 10; refine (new_some 100 w (by decide) (by decide)).mono ?_; rintro e w1 ⟨rfl, hf, _⟩; have H1 := Aside0.mk hf; clear hf)
    | (go_at_call 11; refine (live_create w 100 _ _ _ rfl H1.out).mono ?_; rintro e w2 ⟨rfl, S1, b, hf, hl⟩; have H2 := Aside0.mk hf; have L2 := Aside0.mk hl; clear hf hl H1)
    | (go_at_call 12; go_loud (refine (live_append w _ S1 b _ _ _ _ 3 [120, 121, 122] _ (H2.out.alloc _) L2.out (Nat.le_of_ble_eq_true rfl) (by decide) (by decide) (litR w2 _ _ [120, 121, 122] rfl (by decide)) (by decide)).mono ?_; rintro e w3 ⟨rfl, S2, hf, hl⟩; have H3 := Aside0.mk hf; have L3 := Aside0.mk hl; clear hf hl H2 L2))
    | (go_at_call 13; refine (live_sync w _ S2 b _ _ _ _ H3.out L3.out (Nat.le_of_ble_eq_true rfl) (by decide)).mono ?_; rintro e w4 ⟨rfl, S3, hf, hl⟩; have H4 := Aside0.mk hf; have L4 := Aside0.mk hl; clear hf hl H3 L3)
    | (go_at_call 14; refine (live_dir w _ S3 b _ _ _ _ H4.out L4.out).mono ?_; rintro e w5 ⟨rfl, S4, hf, hl⟩; have H5 := Aside0.mk hf; have L5 := Aside0.mk hl; clear hf hl H4 L4)
    | (go_at_call 12; refine (live_append w _ S4 b _ _ _ _ 2 [117, 118] _ (H5.out.alloc _) L5.out (Nat.le_of_ble_eq_true rfl) (by decide) (by decide) (litR w5 _ _ [117, 118] rfl (by decide)) (by decide)).mono ?_; rintro e w6 ⟨rfl, S5, hf, hl⟩; have H6 := Aside0.mk hf; have L6 := Aside0.mk hl; clear hf hl H5 L5)
    | (go_at_call 16; refine (live_crash w _ S5 b _ _ 1 1 _ (H6.out.alloc _) L6.out (by decide) (by decide) (fun w' _ hk => keep1 w6 w' hk) (by decide)).mono ?_; rintro e w7 ⟨rfl, S6, hf, hl⟩; have H7 := Aside0.mk hf; have L7 := Aside0.mk (show LS S6 b ⟨[120, 121, 122, 117], 4⟩ [] (oneD b) from hl); clear hf hl H6 L6)
    | (go_at_call 26; refine (read_any w _ S6 nmA b 4 _ H7.out (L7.out.files (by decide)) L7.out.flts (by decide) (by rw [L7.out.seen]; exact look_one b) (by rw [L7.out.fl]; decide)).mono ?_; rintro e w8 ⟨v, o8, n8, rfl, hb, hf⟩; rw [L7.out.fl] at hb; have hb : BytesAt w8 w.heap.size v [120, 121, 122, 117] := hb; obtain ⟨A8, c8, rfl, _⟩ := hb.form; have hcv : (convert 22 9 (.slice A8 4 c8)).run Try.prog w8 = .ok (.string ⟨#[120, 121, 122, 117]⟩) w8 := bytes_text hb (by decide); have H8 := Aside0.mk hf; clear hf hb)
    | (go_at_call 23; refine (left_any w _ _ 10 _ H8.out (Small.mk (L7.out.small (Nat.le_of_ble_eq_true rfl)).se (L7.out.small (Nat.le_of_ble_eq_true rfl)).la (by decide)) (FilesOk.mk (L7.out.files (by decide)).cap (L7.out.files (by decide)).fs)).mono ?_; rintro e w9 ⟨rfl, hb⟩; rw [show (St.cap _ : Int) - ((sumD (St.fl _) (St.seen _) : Nat) : Int) = 96 by show S6.cap - ((sumD S6.fl S6.seen : Nat) : Int) = 96; rw [sum_one L7.out, L7.out.cap]; rfl]; have H9 := Aside0.mk hb; clear hb)
    )
  go_ret
  exact ⟨rfl, H8.out.be.trans (H9.out.mono H8.out.be.size)⟩
end Go.Proofs.Ytamhecmopnekjaa.Vf
/- vfs: Ops of nil; VfsNobody. -/
namespace Go.Proofs.Ytamhecmopnekjaa.Vf
open Go Go.RowKit Go.Maps Go.Proofs.Ytamhecmopnekjaa Go.Proofs.YtamhecmopnekjaaW.PrintWords
set_option linter.unusedVariables false
set_option linter.unusedSimpArgs false

set_option maxHeartbeats 2000000 in
set_option maxRecDepth 100000 in
theorem ops_nil (w : World) : Calls Try.prog 31 #[.pointer none] w fun e w' => e = .returned (.agg #[.int .i64 0, .int .i64 0, .int .i64 0, .int .i64 0, .int .i64 0, .int .i64 0, .int .i64 0, .int .i64 0]) ∧ Below w.heap.size w w' := by
  have hu := Try.underlying65
  go_enter Try.func31, Try.ntmps31
  go_wp2_with (go_at_call 33; refine (made_nil _).mono ?_; rintro e w1 ⟨rfl, hw⟩; rw [hw]; clear hw w1)
  (try simp only [Exit.inBlock, Exit.then])
  exact bodyPost_ret (results_cell_row rfl _ _ w.heap.size 65 _ (0, 0) _ rfl (heap_alloc_new w _) hu rfl (by kernel_rfl)) rfl ⟨rfl, (Below.refl _ _).alloc (Nat.le_refl _) _⟩
theorem _root_.Go.RowKit.Below.then {b : Nat} {w w1 w2 : World} (h : Below b w w1) (h' : Below w1.heap.size w1 w2) (hb : b ≤ w.heap.size) : Below b w w2 := h.trans (h'.mono (Nat.le_trans hb h.size))
def zOps : Value := .agg #[.int .i64 0, .int .i64 0, .int .i64 0, .int .i64 0, .int .i64 0, .int .i64 0, .int .i64 0, .int .i64 0]
set_option maxRecDepth 100000 in
theorem ops_eq (w : World) : (binOp .eql 65 (.agg #[.int .i64 0, .int .i64 0, .int .i64 0, .int .i64 0, .int .i64 0, .int .i64 0, .int .i64 0, .int .i64 0]) (.agg #[.int .i64 0, .int .i64 0, .int .i64 0, .int .i64 0, .int .i64 0, .int .i64 0, .int .i64 0, .int .i64 0])).run Try.prog w = .ok (.bool true) w := by kernel_rfl
set_option maxHeartbeats 4000000 in
set_option maxRecDepth 100000 in
theorem nobody_any (s : ByteArray) (n : Int) (A : Option Addr) (bl bc : Nat) (d : Int) (A2 : Option Addr) (kl kc : Nat) (w : World) (hs : s.size ≤ 140737488351232) (hbl : bl ≤ 9223372036854775807) :
    Calls Try.prog 8 #[.string s, .int .i64 n, .slice A bl bc, .agg #[.int .i64 d, .slice A2 kl kc]] w fun e w' => e = .returned (.bool true) ∧ Below w.heap.size w w' := by
  have huc := Try.underlying25
  have huo := Try.underlying65
  have heqo := ops_eq
  have hb0 : Below w.heap.size w (w.alloc (.cells #[.int .i64 d, .slice A2 kl kc] 25)) := (Below.refl _ _).alloc (Nat.le_refl _) _
  have Hbx := Aside0.mk (heap_alloc_new w (.cells #[.int .i64 d, .slice A2 kl kc] 25))
  have HB := Aside0.mk hb0
  have HSz := Aside0.mk (size_alloc w (.cells #[.int .i64 d, .slice A2 kl kc] 25))
  clear hb0
  go_enter Try.func8, Try.ntmps8
  go_wp2_with (first
    | (go_at_call 26; refine (read_nil _ _ _ _).mono ?_; rintro e w1 ⟨rfl, hw⟩; rw [hw]; clear hw w1)
    | (go_at_call 27; refine (size_nil _ _).mono ?_; rintro e w1 ⟨rfl, hw⟩; rw [hw]; clear hw w1)
    | (go_at_call 28; refine (stop_nil _ _).mono ?_; rintro e w1 ⟨rfl, hw⟩; rw [hw]; clear hw w1)
    | (go_at_call 9; refine (lives_any _).mono ?_; rintro e w1 ⟨rfl, hb⟩; have HB1 := Aside0.mk hb; clear hb)
    | (go_at_call 11; refine (create_nil _ _).mono ?_; rintro e w2 ⟨rfl, hw⟩; rw [hw]; clear hw w2)
    | (go_at_call 12; refine (append_nil _ _ _ _ _).mono ?_; rintro e w2 ⟨rfl, hb⟩; have HB2 := Aside0.mk hb; clear hb)
    | (go_at_call 13; refine (sync_nil _ _).mono ?_; rintro e w3 ⟨rfl, hb⟩; have HB3 := Aside0.mk hb; clear hb)
    | (go_at_call 15; refine (rename_nil _ _ _).mono ?_; rintro e w2 ⟨rfl, hw⟩; rw [hw]; clear hw w2)
    | (go_at_call 24; refine (remove_nil _ _).mono ?_; rintro e w2 ⟨rfl, hw⟩; rw [hw]; clear hw w2)
    | (go_at_call 14; refine (syncDir_nil _).mono ?_; rintro e w4 ⟨rfl, hb⟩; have hbb := (((HB1.out.then HB2.out (Nat.le_refl _)).then HB3.out (Nat.le_refl _)).then hb (Nat.le_refl _)); have HB4 := Aside0.mk hbb; have hx4 := (hbb.block w.heap.size (blk_lt Hbx.out)).trans Hbx.out; have c0 : w4.cell? ⟨w.heap.size, 0, none⟩ = some (.int .i64 d) := (blk_cell hx4 0).trans rfl; have c1 : w4.cell? ⟨w.heap.size, 1, none⟩ = some (.slice A2 kl kc) := (blk_cell hx4 1).trans rfl; clear hb hbb hx4)
    | (go_at_call 21; refine (fail_nil _ _ _ _).mono ?_; rintro e w2 ⟨rfl, hw⟩; rw [hw]; clear hw w2)
    | (go_at_call 16; refine (crash_nil _ _ _ _ _).mono ?_; rintro e w5 ⟨rfl, hb⟩; have HB5 := Aside0.mk hb; clear hb)
    | (go_at_call 29; refine (off_nil _).mono ?_; rintro e w2 ⟨rfl, hw⟩; rw [hw]; clear hw w2)
    | (go_at_call 30; refine (list_nil _).mono ?_; rintro e w2 ⟨rfl, hw⟩; rw [hw]; clear hw w2)
    | (go_at_call 18; refine (files_nil _).mono ?_; rintro e w2 ⟨rfl, hw⟩; rw [hw]; clear hw w2)
    | (go_at_call 25; refine (pending_nil _).mono ?_; rintro e w2 ⟨rfl, hw⟩; rw [hw]; clear hw w2)
    | (go_at_call 23; refine (left_nil _).mono ?_; rintro e w2 ⟨rfl, hw⟩; rw [hw]; clear hw w2)
    | (go_at_call 31; refine (ops_nil _).mono ?_; rintro e w6 ⟨rfl, hb⟩; have HB6 := Aside0.mk hb; clear hb)
    | (go_at_call 32; refine (fork_nil _).mono ?_; rintro e w7 ⟨rfl, hb⟩; have HB7 := Aside0.mk hb; clear hb))
  go_ret
  exact ⟨rfl, ((((HB.out.trans (HB4.out.mono HB.out.size)).then HB5.out (Nat.le_refl _)).then HB6.out (Nat.le_refl _)).then HB7.out (Nat.le_refl _))⟩
end Go.Proofs.Ytamhecmopnekjaa.Vf
/- VfsNobody: its walk, in the row's form. -/
namespace Go.Proofs.Ytamhecmopnekjaa.Vf
open Go Go.RowKit Go.Maps Go.Proofs.Ytamhecmopnekjaa Go.Proofs.YtamhecmopnekjaaW.PrintWords
set_option linter.unusedVariables false
theorem nobody_walk (s : ByteArray) (n : Int) (A : Option Addr) (c : Nat) (xs : List Int) (cs : Array Value) (y : Ty.S25) (W : World) (hs : s.size ≤ 140737488351232) (hn : (Lit.int .i64 n).wf = true) (hC : Kd.C (Kd.int .u8) W A xs.length xs) (hc : xs.length ≤ c) (hx : xs.length * 1 ≤ 140737488351232 ∧ ∀ x ∈ xs, (Lit.int .u8 x).wf = true) (hK : Ty.k25.K W y cs.toList) (hy : ((Lit.int .i64 y.f0).wf = true) ∧ (y.f1.length * 8 ≤ 140737488351232 ∧ ∀ e ∈ y.f1, (Lit.int .i64 e).wf = true)) :
    Calls Try.prog 8 #[.string s, .int .i64 n, .slice A xs.length c, .agg cs] W fun e w' => e = .returned (.bool true) ∧ Below W.heap.size W w' := by
  obtain ⟨A1, c1, e, _, _⟩ := Ty.k25_open hK
  have e' : cs = #[.int .i64 y.f0, .slice A1 y.f1.length c1] := by
    apply Array.toList_inj.1
    exact e
  subst e'
  exact nobody_any s n A xs.length c y.f0 A1 y.f1.length c1 W hs (by omega)
end Go.Proofs.Ytamhecmopnekjaa.Vf
