/- vfs: List, Files. -/
import Derived.Test.YtamhecmopnekjaaVfYY
import Derived.Test.YtamhecmopnekjaaVfF
import Derived.Test.YtamhecmopnekjaaIter
import Derived.Test.YtamhecmopnekjaaPBx
import Derived.Deep.RegionHeldLaw
namespace Go.Proofs.Ytamhecmopnekjaa.Vf
open Go Go.RowKit Go.Maps Go.Sort Go.Proofs.Ytamhecmopnekjaa Go.Proofs.YtamhecmopnekjaaW.PrintWords
set_option linter.unusedVariables false
set_option linter.unusedSimpArgs false

/-- The names of a directory, in order. -/
def names (D : Dt) : List ByteArray := ((strKeys D).mergeSort leB).map fun l => ⟨l.toArray⟩
theorem names_len (D : Dt) : (names D).length = Maps.size D := by
  unfold names
  rw [List.length_map, List.length_mergeSort]
  cases D <;> simp [strKeys, Maps.size]
theorem names_mem {D : Dt} {fb : List Nat} {w : World} {b n : Nat} (how : w.ownsMap Try.prog 9 rdF b n D) (hN : Named D fb) (s : ByteArray) : s ∈ names D ↔ (look D s).isSome = true := by
  obtain ⟨es, rfl, hk⟩ := how.keysOf
  rw [← look_has hN, Maps.has_eq, List.any_eq_true]
  unfold names
  rw [List.mem_map]
  constructor
  · rintro ⟨l, hl, rfl⟩
    have hl2 := (List.mergeSort_perm _ _).mem_iff.1 hl
    obtain ⟨p, hp, hpe⟩ := List.mem_map.1 hl2
    obtain ⟨v, hv⟩ := hk p hp
    obtain ⟨x, _, hx, _⟩ := Maps.keyOf_str Try.underlying9 hv
    refine ⟨p, hp, ?_⟩
    rw [hx] at hpe
    have : x = l := hpe
    subst this
    rw [hx]
    exact WideAt.sameKey_self (show WideAt.IsKeyLit (Lit.string x) from trivial)
  · rintro ⟨p, hp, hs⟩
    have he := WideAt.sameKey_eq hs
    refine ⟨s.data.toList, (List.mergeSort_perm _ _).mem_iff.2 (List.mem_map.2 ⟨p, hp, ?_⟩), ?_⟩
    · rw [he]; rfl
    · exact row_data_inj rfl
set_option maxHeartbeats 2000000 in
set_option maxRecDepth 100000 in
theorem list_any (w0 : World) (g : Nat) (S : St) (N : Nat) (w : World) (h : FsB w0 g S w) (hN : Small S N) :
    Calls Try.prog 30 #[.pointer (some ⟨g, 0, none⟩)] w fun e w' => ∃ v, e = .returned v ∧ Kd.string.R 9 w' w.heap.size (fun _ => True) v (names S.seen) ∧ Below w.heap.size w w' := by
  have hu := Try.underlying73
  have HM := Aside0.mk (made_some g S.bs w (h.cell 1 _ rfl))
  have hc1 := h.cell 1 (.map (some S.bs)) rfl
  have HK := Aside0.mk (callsIn_wide.1 (Try.maps_Keys_49 (some S.bs) w))
  have h1 := hN.se
  have h2 := hN.le
  have HS := Aside0.mk (callsIn_wide.1 (Try.slices_Sorted_keys_48_49 S.bs _ S.seen rdF w h.se (by unfold maxLen; omega) (by omega)))
  clear h hN h1 h2
  go_enter Try.func30, Try.ntmps30
  go_wp2_with (first
    | (go_at_call 33; refine HM.out.mono ?_; rintro e w1 ⟨rfl, hw⟩; rw [hw]; clear hw w1)
    | (go_at_call 49; refine HK.out.mono ?_; rintro e w1 ⟨rfl, hw⟩; rw [hw]; clear hw w1)
    | (go_at_call 48; refine HS.out.mono ?_; rintro e w2 ⟨v, ss, rfl, hp, ho, _, hb⟩; have HP := Aside0.mk hp; have HO := Aside0.mk ho; have HB := Aside0.mk hb; clear hp ho hb))
  go_ret
  have hbe : Below w.heap.size w w2 := ((Below.refl _ _).alloc (Nat.le_refl _) _).trans (HB.out.mono (by rw [size_alloc]; omega))
  have hnm : ss.mergeSort (fun x y => decide (x ≤ y)) = (strKeys S.seen).mergeSort leB := mergeSort_of_perm HP.out
  refine ⟨v, rfl, Kd.R_of_own ?_ (fun _ _ => trivial), hbe⟩
  have ho := own_weaken HO.out (show w.heap.size ≤ _ by rw [size_alloc]; omega)
  rw [hnm] at ho
  have hl : ss.length = (names S.seen).length := by
    unfold names
    rw [List.length_map, ← hnm, List.length_mergeSort]
  rw [hl] at ho
  have he : encs Value.string (names S.seen) = ((strKeys S.seen).mergeSort leB).map encStr := by
    unfold names encs
    rw [List.map_map]
    rfl
  rw [he]
  exact ho
/-! ### Files -/
abbrev SF : Type := PB.S37
abbrev kF : Kd SF := PB.k37
abbrev TF : Nat := 37
def fileX (S : St) (s : ByteArray) : SF := ⟨s, nb (S.fl ((look S.seen s).getD 0)).bytes, ((S.fl ((look S.seen s).getD 0)).synced : Int)⟩
def files (S : St) : List SF := (names S.seen).map (fileX S)
theorem infoFile : (Try.prog.info? TF).map (fun i => (i.zero, i.size, i.bytes)) = some (some (.agg #[.string ⟨#[]⟩, .slice none 0 0, .int .i64 0]), kF.sz, 48) := by kernel_rfl
/-- The files that were taken so far. -/
structure PLf (w0 : World) (v : Value) (xs : List SF) (w : World) : Prop where
  ow : kF.R TF w w0.heap.size (fun _ => True) v xs
  be : Below w0.heap.size w0 w
theorem PLf.below {w0 w w1 : World} {v : Value} {xs : List SF} (h : PLf w0 v xs w) (hb : Below w.heap.size w w1) : PLf w0 v xs w1 := ⟨Kd.R_below h.ow hb, h.be.trans (hb.mono h.be.size)⟩
set_option maxHeartbeats 4000000 in
set_option maxRecDepth 100000 in
theorem files_any (w0 : World) (g : Nat) (S : St) (N : Nat) (w : World) (h : FsB w0 g S w) (hN : Small S N) (hF : FilesOk S) :
    Calls Try.prog 18 #[.pointer (some ⟨g, 0, none⟩)] w fun e w' => ∃ v, e = .returned v ∧ kF.R TF w' w.heap.size (fun _ => True) v (files S) ∧ Below w.heap.size w w' := by
  have hu := Try.underlying73
  have huf := Try.underlying78
  have huF := Try.underlying37
  have HF := Aside0.mk h
  have HM := Aside0.mk (made_some g S.bs w (h.cell 1 _ rfl))
  have HLi := Aside0.mk (list_any w0 g S N w h hN)
  have HFo := Aside0.mk hF
  have hnl : (names S.seen).length ≤ 2000000000000 := by rw [names_len]; exact Nat.le_trans hN.se hN.le
  have Hmem := Aside0.mk (fun s => names_mem h.se h.sn s)
  have Hnl := Aside0.mk hnl
  clear h hN hF
  generalize hn : names S.seen = ns at *
  have Hfs := Aside0.mk (show files S = ns.map (fileX S) by unfold files; rw [hn])
  clear hn
  go_enter Try.func18, Try.ntmps18
  go_wp2_with (first
    | (go_at_call 33; refine HM.out.mono ?_; rintro e w1 ⟨rfl, hw⟩; rw [hw]; clear hw w1)
    | (go_at_call 30; refine HLi.out.mono ?_; rintro e w2 ⟨v, rfl, hr, hb⟩; obtain ⟨A, c, rfl, hle⟩ := Kd.R_reads hr; have HR := Aside0.mk hr; have HB := Aside0.mk hb; have Hle := Aside0.mk hle.1; have hlc := hle.1; clear hr hb hle))
  have HC := Aside0.mk (Kd.R_reads' HR.out).2.2
  have HP0 := Aside0.mk (show PLf w2 (.slice none 0 0) (List.map (fileX S) (ns.take 0)) w2 from ⟨Kd.R_nil _ _ _ _ _, Below.refl _ _⟩)
  go_loopw [3, 13] (fun ov iv wr => ∃ j : Nat, j ≤ ns.length ∧ iv = .int .i64 j ∧ Aside0 (PLf w2 ov (List.map (fileX S) (ns.take j)) wr)) (fun _ iv _ => ns.length - (intOf iv).toNat)
  case atStart => exact ⟨0, Nat.zero_le _, rfl, HP0⟩
  case round =>
    clear HP0
    obtain ⟨j, hj, rfl, HP⟩ := hrel
    have HB2 := Aside0.mk HP.out.be
    by_cases hlt : j < ns.length
    · obtain ⟨ad, rfl, hc0⟩ := Kd.at_string (Kd.C_below HC.out HB2.out) (j : Int) (by omega) (by omega)
      rw [Int.toNat_natCast] at hc0
      have hs : rdOf ByteArray.empty ns (j : Int) = ns[j] := by unfold rdOf; rw [Int.toNat_natCast, List.getD_eq_getElem?_getD, List.getElem?_eq_getElem hlt]; rfl
      rw [hs] at hc0
      have hmem := (Hmem.out ns[j]).1 (List.getElem_mem hlt)
      obtain ⟨f, hf⟩ := Option.isSome_iff_exists.1 hmem
      have HBw := HB.out.trans (HB2.out.mono HB.out.size)
      have hfm := (look_mem HF.out.sn hf).1
      have hFr := HF.out.below HBw
      obtain ⟨vf, hv, hb⟩ := (hFr.fi f hfm).cs
      have hnil : ∀ {A n c}, vf = .slice A n c → (A = none → n = 0 ∧ c = 0) := fun {A n c} e => by
        rcases hb with ⟨rfl, _⟩ | ⟨k, c', cur, fz, e', h1, h2, h3, h4, h5⟩
        · injection e with e1 e2 e3
          subst e1 e2 e3
          exact fun _ => ⟨rfl, rfl⟩
        · rw [e'] at e
          injection e with e1 e2 e3
          subst e1 e2 e3
          exact fun h => by cases h
      obtain ⟨Af, cp, rfl, hcp⟩ := hb.form
      have d0 : wr.cell? ⟨f, 0, none⟩ = some (.slice Af (S.fl f).bytes.length cp) := (blk_cell hv 0).trans rfl
      have d1 : wr.cell? ⟨f, 1, none⟩ = some (.int .i64 ((S.fl f).synced : Int)) := (blk_cell hv 1).trans rfl
      have hsm : ns[j].size ≤ maxLen := by
        obtain ⟨es, hes, hkl⟩ := hFr.se.keysOf
        have hh := (look_mem HF.out.sn hf).2.1
        rw [hes, Maps.has_eq, List.any_eq_true] at hh
        obtain ⟨p, hp, hps⟩ := hh
        obtain ⟨v, hv⟩ := hkl p hp
        obtain ⟨x, _, hx, hxl⟩ := Maps.keyOf_str Try.underlying9 hv
        have he := WideAt.sameKey_eq hps
        rw [hx] at he
        have : x = ns[j].data.toList := by injection he
        rw [this, Array.length_toList] at hxl
        exact hxl
      have hr := run_look hFr.se hFr.sn hsm
      rw [hf] at hr
      simp only [ptrV, Option.map_some] at hr
      have c1 : wr.cell? ⟨g, 1, none⟩ = some (.map (some S.bs)) := hFr.cell 1 _ rfl
      have hst : List.map (fileX S) (ns.take (j + 1)) = List.map (fileX S) (ns.take j) ++ [fileX S ns[j]] := by rw [List.take_succ_eq_append_getElem hlt, List.map_append]; rfl
      have Hst := Aside0.mk hst
      have hx : fileX S ns[j] = ⟨ns[j], nb (S.fl f).bytes, ((S.fl f).synced : Int)⟩ := by unfold fileX; rw [hf]; rfl
      have HX := Aside0.mk hx
      have HCl := Aside0.mk (fun (wx : World) (hbx : Below wr.heap.size wr wx) => clone_row Af (S.fl f).bytes.length cp (S.fl f).bytes wx ((hb.below hbx).reads) (by have := (HFo.out.fs f hfm).1; omega))
      have Hfl := Aside0.mk hFr
      have hli : (j : Int) < (ns.length : Int) := by omega
      have Htl := Aside0.mk (show ((List.map (fileX S) (ns.take j)).length + 1) * 48 ≤ 140737488355328 by rw [List.length_map, List.length_take]; have := Hnl.out; omega)
      generalize ns[j] = s at *
      have hkk := fun k (hk : wr.drew.heap.size ≤ k) => show some k ≠ u3.ownBlock from fun e => by
        have := Kd.R_lt HP.out.ow k e.symm
        have h2 : wr.drew.heap.size = wr.heap.size := rfl
        omega
      have Hkk := Aside0.mk hkk
      have Hv := Aside0.mk (show wr.drew.heap[f]? = some (.cells #[.slice Af (S.fl f).bytes.length cp, .int .i64 ((S.fl f).synced : Int)] TFile (0, 0)) from hv)
      have HCd := Aside0.mk (HCl.out wr.drew (below_drew1 (Below.refl _ _)))
      have HAl := Aside0.mk (show ∀ (W : World) (o : Obj) (a : Addr) (v : Value), W.cell? a = some v → (W.alloc o).cell? a = some v from fun W o a v hh => (((Below.refl W.heap.size W).alloc (Nat.le_refl _) o).cell (World.block_lt_of_cell? W _ hh)).trans hh)
      clear hs hmem hf hfm hFr hv hb hnil hcp hsm hst hx HBw hkk
      go_wp2
      go_region_held3 (fun w' => w'.cell? ⟨f, 0, none⟩ = some (.slice Af (S.fl f).bytes.length cp) ∧ w'.cell? ⟨f, 1, none⟩ = some (.int .i64 ((S.fl f).synced : Int))) (first | exact ⟨z0, z1⟩ | exact ⟨HAl.out _ _ _ _ y0, HAl.out _ _ _ _ y1⟩ | exact ⟨y0, y1⟩ | exact ⟨d0, d1⟩ | go_keep) (first
        | (go_at_call 36; refine HCd.out.mono ?_; rintro e wx ⟨v, rfl, hrow, hb⟩; obtain ⟨A1, c1', rfl, _⟩ := Kd.R_reads hrow; have HRow := Aside0.mk hrow; have HBx := Aside0.mk hb; have y0 : wx.cell? ⟨f, 0, none⟩ = some (.slice Af (S.fl f).bytes.length cp) := (blk_cell ((hb.block f (blk_lt Hv.out)).trans Hv.out) 0).trans rfl; have y1 : wx.cell? ⟨f, 1, none⟩ = some (.int .i64 ((S.fl f).synced : Int)) := (blk_cell ((hb.block f (blk_lt Hv.out)).trans Hv.out) 1).trans rfl; clear hrow hb)
        | (refine Kd.R_append_step kF (w0 := w2) w2.heap.size rfl (.tmp 23) (.tmp 35) 40 TF _ 48 rfl Try.underlying40 infoFile rfl (Nat.succ_pos 2) (by decide) u3 (List.map (fileX S) (ns.take j)) ⟨s, nb (S.fl f).bytes, ((S.fl f).synced : Int)⟩ [.string s, .slice A1 (nb (S.fl f).bytes).length c1', .int .i64 ((S.fl f).synced : Int)] (fun _ => True) (fun k => wr.drew.heap.size ≤ k) rfl rfl (PB.k37_mkM _ _ _ _ (Kd.R_lower (Kd.R_mono (Kd.R_bound HRow.out) (fun k hk => hk.2.1)) (HP.out.be.size))) (fun k hk => ⟨trivial, Hkk.out k hk⟩) (fun _ _ => trivial) ((HP.out.below (below_drew1 (Below.refl _ _))).below HBx.out).ow ((HP.out.below (below_drew1 (Below.refl _ _))).below HBx.out).be ((HP.out.below (below_drew1 (Below.refl _ _))).below HBx.out).be.size Htl.out ?_; intro v1 w3 ho hb hg hat; have z0 : w3.cell? ⟨f, 0, none⟩ = some (.slice Af (S.fl f).bytes.length cp) := (blk_cell (blk_grown ((HBx.out.block f (blk_lt Hv.out)).trans Hv.out) hg (Kd.R_ne ((HP.out.below (below_drew1 (Below.refl _ _))).below HBx.out).ow ((HBx.out.block f (blk_lt Hv.out)).trans Hv.out) (by decide))) 0).trans rfl; have z1 : w3.cell? ⟨f, 1, none⟩ = some (.int .i64 ((S.fl f).synced : Int)) := (blk_cell (blk_grown ((HBx.out.block f (blk_lt Hv.out)).trans Hv.out) hg (Kd.R_ne ((HP.out.below (below_drew1 (Below.refl _ _))).below HBx.out).ow ((HBx.out.block f (blk_lt Hv.out)).trans Hv.out) (by decide))) 1).trans rfl; have HO3 := Aside0.mk ho; have HB3 := Aside0.mk hb; have HG3 := Aside0.mk hg; clear ho hb hg hat))
      have HP4 := Aside0.mk (show PLf w2 v1 (List.map (fileX S) (ns.take (j + 1))) w3 from ⟨by rw [Hst.out, HX.out]; exact HO3.out, HB3.out⟩)
      go_wp2
      go_roundw
      case rel => exact ⟨j + 1, by omega, by go_num, HP4⟩
      case measure => simp [intOf]; omega
    · obtain rfl : j = ns.length := by omega
      have HZ := Aside0.mk (show PLf w2 u3 (files S) wr by rw [Hfs.out]; have := HP.out; rwa [List.take_length] at this)
      go_wp2
      go_ret
      exact ⟨_, rfl, Kd.R_lower HZ.out.ow HB.out.size, HB.out.trans (HZ.out.be.mono HB.out.size)⟩
end Go.Proofs.Ytamhecmopnekjaa.Vf
/- vfs: Crash: what it comes to; what a step of it leaves. -/
namespace Go.Proofs.Ytamhecmopnekjaa.Vf
open Go Go.RowKit Go.Maps Go.Proofs.Ytamhecmopnekjaa Go.Proofs.YtamhecmopnekjaaW.PrintWords
set_option linter.unusedVariables false
set_option linter.unusedSimpArgs false

def crashBad (S : St) (dir : Int) (ks : List Int) : Bool := decide (dir < 0) || decide ((S.pend.length : Int) < dir) || below0 ks
/-- What a crash keeps of a file: k bytes more than what was synced. -/
def crashX (x : VFile) (k : Int) : VFile := ⟨x.bytes.take (x.synced + k.toNat), x.synced + k.toNat⟩
def moreX (x : VFile) (k : Option Int) : Int := match k with | some k => min k ((x.bytes.length : Int) - (x.synced : Int)) | none => 0
def crashFl (D : Dt) (ks : List Int) (fl : Nat → VFile) : Nat → (Nat → VFile)
  | 0 => fl
  | j + 1 => let fl' := crashFl D ks fl j; let b := (look D ((names D).getD j ByteArray.empty)).getD 0; updF fl' b (crashX (fl' b) (moreX (fl' b) ks[j]?))
def playD (ts : List Turn) (D : Dt) : Dt := ts.foldl (fun D t => onD t D) D
theorem playD_snoc (ts : List Turn) (t : Turn) (D : Dt) : playD (ts ++ [t]) D = onD t (playD ts D) := by unfold playD; rw [List.foldl_append]; rfl
def crashS (S : St) (dir : Nat) (ks : List Int) (bs bn : Nat) : St :=
  { S with bs := bs, bn := bn, seen := playD (S.pend.take dir) S.lasts, lasts := playD (S.pend.take dir) S.lasts, pv := (.slice none 0 0), pend := [], fv := (.slice none 0 0), flts := [], nth := (.map []), fl := crashFl (playD (S.pend.take dir) S.lasts) ks S.fl (names (playD (S.pend.take dir) S.lasts)).length }
/-- A crash's own facts about files: their synced bytes are theirs. -/
def FOk (fb : List Nat) (fl : Nat → VFile) : Prop := ∀ b ∈ fb, (fl b).bytes.length ≤ 1048576 ∧ (fl b).synced ≤ (fl b).bytes.length
theorem crashX_ok {x : VFile} {k : Option Int} (h : x.bytes.length ≤ 1048576 ∧ x.synced ≤ x.bytes.length) (hk : ∀ i, k = some i → 0 ≤ i) : (crashX x (moreX x k)).bytes.length = (crashX x (moreX x k)).synced ∧ (crashX x (moreX x k)).synced ≤ x.bytes.length ∧ 0 ≤ moreX x k ∧ (x.synced : Int) + moreX x k ≤ (x.bytes.length : Int) := by
  obtain ⟨h1, h2⟩ := h
  have hm : 0 ≤ moreX x k ∧ (x.synced : Int) + moreX x k ≤ (x.bytes.length : Int) := by
    unfold moreX
    split
    · rename_i i
      have := hk i rfl
      omega
    · omega
  unfold crashX
  simp only [List.length_take]
  omega
theorem fok_upd {fb : List Nat} {fl : Nat → VFile} {b : Nat} {x : VFile} (h : FOk fb fl) (hx : x.bytes.length ≤ 1048576 ∧ x.synced ≤ x.bytes.length) : FOk fb (updF fl b x) := fun k hk => by
  unfold updF
  split
  · exact hx
  · exact h k hk
theorem fok_crash {fb : List Nat} {D : Dt} {ks : List Int} {fl : Nat → VFile} (h : FOk fb fl) (hk : ∀ k ∈ ks, 0 ≤ k) (hN : ∀ j, j < (names D).length → (look D ((names D).getD j ByteArray.empty)).getD 0 ∈ fb) : ∀ j, j ≤ (names D).length → FOk fb (crashFl D ks fl j)
  | 0, _ => h
  | j + 1, hj => by
    have ih := fok_crash h hk hN j (by omega)
    have hb := ih _ (hN j (by omega))
    have hx := crashX_ok (x := crashFl D ks fl j ((look D ((names D).getD j ByteArray.empty)).getD 0)) (k := ks[j]?) hb (fun i hi => hk i (List.mem_of_getElem? hi))
    exact fok_upd ih ⟨by omega, by omega⟩
theorem size_on {D : Dt} (t : Turn) (hT : Tidy D) : Maps.size (onD t D) ≤ Maps.size D + 1 := by
  have hp : ∀ (D : Dt) (k : Lit) (d : Dt), Tidy D → Maps.size (D.put k d) ≤ Maps.size D + 1 := fun D k d h => by
    rw [Maps.size_put h]; split <;> omega
  unfold onD
  split
  · exact hp _ _ _ hT
  · have hd : ∀ k : Lit, Maps.size (D.del k) ≤ Maps.size D := fun k => by have := Maps.size_del (k := k) hT; omega
    split
    · have := hd (key t.name); omega
    · split
      · split
        · rename_i f hl
          split
          · omega
          · have hT2 : Tidy (D.del (key t.name)) := by
              obtain ⟨es, rfl, hp2⟩ := hT
              exact ⟨_, rfl, hp2.filter _⟩
            have h1 := hp (D.del (key t.name)) (key t.dest) (fD f) hT2
            have h2 := hd (key t.name)
            omega
        · omega
      · omega
theorem FsR.reseen {w0 w w' : World} {S : St} (h : FsR w0 S w) (hb : Below w.heap.size w w') {b : Nat} (hge : w.heap.size ≤ b) (ho : w'.ownsMap Try.prog 9 rdF b (Maps.size S.lasts) S.lasts) : FsR w0 { S with bs := b, seen := S.lasts } w' := by
  have h1 := h.wr (T := fun _ => False) (M := fun _ => False) (Wr.of_below hb) (h.be.trans (hb.mono h.be.size)) id id id id id id id
  have l1 := h.la.lt
  have l2 := h.nt.lt
  exact {
    be := h1.be
    se := ho
    la := h1.la
    nt := h1.nt
    bB := ⟨Nat.le_trans h.be.size hge, h.bB.2.1, h.bB.2.2⟩
    ne := ⟨by show b ≠ S.bl; omega, by show b ≠ S.bn; omega, h.ne.2.2⟩
    pe := h1.pe
    fa := h1.fa
    fi := h1.fi
    sn := h.ln
    ln := h.ln
    pn := h.pn
    nb := h.nb }
theorem updF_same (fl : Nat → VFile) (b : Nat) (x : VFile) : updF fl b x b = x := if_pos rfl
theorem updF_twice (fl : Nat → VFile) (b : Nat) (x y : VFile) : updF (updF fl b x) b y = updF fl b y := by
  funext k
  unfold updF
  split <;> rfl
def zT : Turn := ⟨0, ByteArray.empty, ByteArray.empty, none⟩
/-- A turn of a row that is read, cell by cell. -/
theorem turn_at {w : World} {A : Option Addr} {n : Nat} {xs : List Turn} (h : kTurn.C w A n xs) (i : Nat) (hi : i < n) : ∃ ad, A = some ad ∧
    w.cell? (ad.add (i * 4)) = some (.int .i64 (xs.getD i zT).op) ∧ w.cell? ⟨(ad.add (i * 4)).block, (ad.add (i * 4)).off + 1, none⟩ = some (.string (xs.getD i zT).name) ∧ w.cell? ⟨(ad.add (i * 4)).block, (ad.add (i * 4)).off + 2, none⟩ = some (.string (xs.getD i zT).dest) ∧ w.cell? ⟨(ad.add (i * 4)).block, (ad.add (i * 4)).off + 3, none⟩ = some (ptrV (xs.getD i zT).f) := by
  obtain ⟨ad, c, e, hl, hK, hc⟩ := Kd.C_get h zT (i : Int) (by omega) (by omega)
  rw [Int.toNat_natCast] at hK hc
  obtain ⟨c0, c1, e, h0, h1, c2, e2, h2, h3, c4, e4, h4, h5⟩ := hK
  have h0' : c0 = [.int .i64 (xs.getD i zT).op] := h0
  have h2' : _ = [Value.string (xs.getD i zT).name] := h2
  have h4' : _ = [Value.string (xs.getD i zT).dest] := h4
  have h5' : _ = [ptrV (xs.getD i zT).f] := h5
  subst h0' h2' h4' h5' e4 e2 e
  have hs : kTurn.sz = 4 := rfl
  rw [hs] at hc
  exact ⟨ad, ‹_›, hc 0 _ rfl, by rw [← add_field _ _ 1 (by omega)]; exact hc 1 _ rfl, by rw [← add_field _ _ 2 (by omega)]; exact hc 2 _ rfl, by rw [← add_field _ _ 3 (by omega)]; exact hc 3 _ rfl⟩
theorem cells_keep {H : Type} {P : Program} {kt : TypeId} {R : Value → Option (DataW H × List MemPlace)} {b n : Nat} {D : DataW H} {W wx : World} (hown : W.ownsMap P kt R b n D) (hg : W.grownBy wx (some b)) {k : Nat} {cs : Array Value} {T : TypeId} (hk : W.heap[k]? = some (.cells cs T (0, 0))) {i : Nat} {v : Value} (hv : cs[i]? = some v) : wx.cell? ⟨k, i, none⟩ = some v := by
  have hne : some k ≠ some b := fun e => by
    injection e with e
    obtain ⟨es, clock, h1, _⟩ := hown
    rw [← e, hk] at h1
    cases h1
  exact (blk_cell ((hg.block k (blk_lt hk) hne).trans hk) i).trans hv
theorem fs_keep {w0 W wx : World} {g : Nat} {S : St} (h : FsB w0 g S W) {b : Nat} (hb : (∃ es c, W.heap[b]? = some (.map es c))) (hg : W.grownBy wx (some b)) : wx.heap[g]? = some (.cells S.cells TFS (0, 0)) :=
  (hg.block g (blk_lt h.fs) (fun e => by
    injection e with e
    obtain ⟨es, c, hm⟩ := hb
    rw [← e, h.fs] at hm
    cases hm)).trans h.fs
theorem own_isMap {H : Type} {P : Program} {kt : TypeId} {R : Value → Option (DataW H × List MemPlace)} {b n : Nat} {D : DataW H} {W : World} (h : W.ownsMap P kt R b n D) : ∃ es c, W.heap[b]? = some (.map es c) := by
  obtain ⟨es, c, h1, _⟩ := h
  exact ⟨es, c, h1⟩
/-- The directory is seen as it lasts, and nothing is pending. -/
def reS (S : St) (b : Nat) : St := { S with bs := b, seen := S.lasts, pv := (.slice none 0 0), pend := [] }
theorem reseen_set {w0 w wx : World} {g : Nat} {S : St} (h : FsB w0 g S w) (hb : Below w.heap.size w wx) {b : Nat} (hge : w.heap.size ≤ b) (ho : wx.ownsMap Try.prog 9 rdF b (Maps.size S.lasts) S.lasts) :
    (wx.setCell ⟨g, 1, none⟩ (.map (some b))).cell? ⟨g, 3, none⟩ = some S.pv ∧ (wx.setCell ⟨g, 1, none⟩ (.map (some b))).frozen? ⟨g, 3, none⟩ = false ∧ (wx.setCell ⟨g, 1, none⟩ (.map (some b))).cell? ⟨g, 2, none⟩ = some (.map (some S.bl)) ∧
    FsB w0 g (reS S b) ((wx.setCell ⟨g, 1, none⟩ (.map (some b))).setCell ⟨g, 3, none⟩ (.slice none 0 0)) ∧ KeptT w ((wx.setCell ⟨g, 1, none⟩ (.map (some b))).setCell ⟨g, 3, none⟩ (.slice none 0 0)) := by
  have h1 := h.below hb
  have f1 := blk_put h1.fs 1 (.map (some b)) rfl
  have r1 := (h.rest.reseen hb hge ho).own (grown_set wx g 1 (.map (some b))) h1.fs h.gB
  have r2 := r1.own (grown_set (wx.setCell ⟨g, 1, none⟩ (.map (some b))) g 3 (.slice none 0 0)) f1 h.gB
  have r3 : FsR w0 (reS S b) ((wx.setCell ⟨g, 1, none⟩ (.map (some b))).setCell ⟨g, 3, none⟩ (.slice none 0 0)) := { r2 with pe := Kd.R_nil _ _ _ _ _, pn := fun t ht => by cases ht }
  exact ⟨(blk_cell f1 3).trans rfl, blk_frozen f1 3, (blk_cell f1 2).trans rfl, r3.full h.gB (blk_put f1 3 _ rfl), ((KeptT.of_below hb).trans (KeptT.fs (grown_set wx g 1 _) h1.fs)).trans (KeptT.fs (grown_set _ g 3 _) f1)⟩
theorem R_kept {α : Type} {d : Kd α} {e base : Nat} {v : Value} {xs : List α} {w w' : World} (hK : KeptT w w') (h : d.R e w base (fun _ => True) v xs) (hE : ∀ q ∈ e :: d.E, q ≠ TFS ∧ q ≠ TFile ∧ q ≠ TTurn) : d.R e w' base (fun _ => True) v xs := by
  refine Kd.R_mono (Kd.R_move (Kd.R_bound h) (fun k hk => ?_)) (fun _ _ => trivial)
  obtain ⟨_, _, hlt, q, hq, cells, hcell⟩ := hk
  obtain ⟨h1, h2, h3⟩ := hE q hq
  exact (hK.2 k cells q _ hcell h1 h2 h3).trans hcell.symm
/-- A call of a Go function, by its contract, as a step of a region. -/
theorem step_enter2 {P : Program} {ops : Array Oper} {o : Oper} {a : Act} {W : World} {K : Act → World → Prop} {Q : Exit → Act → World → Prop} {E : Prop} (f : Nat) (args : Array Value) {Rel : Value → World → Prop}
    (hgd : o.guard = none) (hrun : (execOp a.eval o).run P W = .ok (.enter f args) W) (h : Calls P f args W fun e w1 => ∃ v, e = .returned v ∧ Rel v w1) (hk : ∀ v w1, Rel v w1 → K (a.put o.dst v) w1) :
    if Region.wanted o (yielded ops a.tmps) = true then Oper.wp P o a W K Q else E := by
  have hw : Region.wanted o (yielded ops a.tmps) = true := by simp [Region.wanted, hgd]
  rw [if_pos hw]
  unfold Oper.wp
  rw [hrun, Oper.upon_enter]
  refine h.mono ?_
  rintro e w1 ⟨v, rfl, hr⟩
  exact hk v w1 hr
theorem playD_named {fb : List Nat} : ∀ (ts : List Turn) (D : Dt), Named D fb → IsMap D → (∀ t ∈ ts, TurnOk t fb) → Named (playD ts D) fb
  | [], D, h, _, _ => h
  | t :: ts, D, h, hm, ht => playD_named ts (onD t D) (named_on h hm (ht t List.mem_cons_self)) (isMap_on hm) (fun t' h' => ht t' (List.mem_cons_of_mem _ h'))
/-- A file's bytes are cut: the block's cells behind the store. -/
theorem file_put0 {w0 w : World} {g : Nat} {S : St} (h : FsB w0 g S w) {f : Nat} (hf : f ∈ S.fb) {v : Value} {L : List UInt8} (hb : BytesAt w w0.heap.size v L) :
    FsB w0 g { S with fl := updF S.fl f ⟨L, (S.fl f).synced⟩ } (w.setCell ⟨f, 0, none⟩ v) ∧ KeptT w (w.setCell ⟨f, 0, none⟩ v) ∧ (w.setCell ⟨f, 0, none⟩ v).heap[f]? = some (.cells #[v, .int .i64 ((S.fl f).synced : Int)] TFile (0, 0)) := by
  obtain ⟨vf, hv, _⟩ := (h.fi f hf).cs
  have hgr := grown_set w f 0 v
  have hw : Wr w (w.setCell ⟨f, 0, none⟩ v) (fun t => t = TFile) (fun _ => False) := Wr.of_cells hgr hv rfl
  have hr := h.rest.file (x := ⟨L, (S.fl f).synced⟩) hf ⟨(h.fi f hf).ge, _, blk_put hv 0 _ rfl, hw.bytes hb (by decide)⟩ hgr
  exact ⟨hr.full h.gB ((hw.cs g _ _ _ h.fs (by decide)).trans h.fs), hw.kept (fun t ht => .inr (.inl ht)), blk_put hv 0 _ rfl⟩
theorem file_put1 {w0 w : World} {g : Nat} {S : St} (h : FsB w0 g S w) {f : Nat} (hf : f ∈ S.fb) {v : Value} {n : Nat} (hv : w.heap[f]? = some (.cells #[v, .int .i64 ((S.fl f).synced : Int)] TFile (0, 0))) :
    FsB w0 g { S with fl := updF S.fl f ⟨(S.fl f).bytes, n⟩ } (w.setCell ⟨f, 1, none⟩ (.int .i64 (n : Int))) ∧ KeptT w (w.setCell ⟨f, 1, none⟩ (.int .i64 (n : Int))) := by
  obtain ⟨vf, hv2, hb⟩ := (h.fi f hf).cs
  have he : vf = v := by
    rw [hv] at hv2
    injection hv2 with hv2
    injection hv2 with hv2 _ _
    exact (by injection congrArg Array.toList hv2 with h1 _; exact h1.symm)
  subst he
  have hgr := grown_set w f 1 (.int .i64 (n : Int))
  have hw : Wr w (w.setCell ⟨f, 1, none⟩ (.int .i64 (n : Int))) (fun t => t = TFile) (fun _ => False) := Wr.of_cells hgr hv rfl
  have hr := h.rest.file (x := ⟨(S.fl f).bytes, n⟩) hf ⟨(h.fi f hf).ge, _, blk_put hv 1 _ rfl, hw.bytes hb (by decide)⟩ hgr
  exact ⟨hr.full h.gB ((hw.cs g _ _ _ h.fs (by decide)).trans h.fs), hw.kept (fun t ht => .inr (.inl ht))⟩
/-- The end of a crash: no faults, new counts. -/
def calmS (S : St) (b : Nat) : St := { S with fv := (.slice none 0 0), flts := [], bn := b, nth := (.map []) }
def calmW (w : World) (g : Nat) : World := ((((w.alloc (.map #[] 0)).setCell ⟨g, 4, none⟩ (.slice none 0 0)).setCell ⟨g, 5, none⟩ (.map (some w.heap.size))).setCell ⟨g, 14, none⟩ (.bool false)).setCell ⟨g, 15, none⟩ (.int .i64 0)
theorem calm_set {w0 w : World} {g : Nat} {S : St} (h : FsB w0 g S w) :
    ((w.alloc (.map #[] 0)).cell? ⟨g, 4, none⟩ = some S.fv ∧ (w.alloc (.map #[] 0)).frozen? ⟨g, 4, none⟩ = false) ∧
    (((w.alloc (.map #[] 0)).setCell ⟨g, 4, none⟩ (.slice none 0 0)).cell? ⟨g, 5, none⟩ = some (.map (some S.bn)) ∧ ((w.alloc (.map #[] 0)).setCell ⟨g, 4, none⟩ (.slice none 0 0)).frozen? ⟨g, 5, none⟩ = false) ∧
    ((((w.alloc (.map #[] 0)).setCell ⟨g, 4, none⟩ (.slice none 0 0)).setCell ⟨g, 5, none⟩ (.map (some w.heap.size))).cell? ⟨g, 14, none⟩ = some (.bool false) ∧ (((w.alloc (.map #[] 0)).setCell ⟨g, 4, none⟩ (.slice none 0 0)).setCell ⟨g, 5, none⟩ (.map (some w.heap.size))).frozen? ⟨g, 14, none⟩ = false) ∧
    (((((w.alloc (.map #[] 0)).setCell ⟨g, 4, none⟩ (.slice none 0 0)).setCell ⟨g, 5, none⟩ (.map (some w.heap.size))).setCell ⟨g, 14, none⟩ (.bool false)).cell? ⟨g, 15, none⟩ = some (.int .i64 0) ∧ ((((w.alloc (.map #[] 0)).setCell ⟨g, 4, none⟩ (.slice none 0 0)).setCell ⟨g, 5, none⟩ (.map (some w.heap.size))).setCell ⟨g, 14, none⟩ (.bool false)).frozen? ⟨g, 15, none⟩ = false) ∧
    FsB w0 g (calmS S w.heap.size) (calmW w g) ∧ KeptT w (calmW w g) := by
  have ha := h.alloc (.map #[] 0)
  have m0 := World.ownsMap_made (H := Unit) w Try.prog 3 (plainElem Try.prog 3)
  have l1 := h.se.lt
  have l2 := h.la.lt
  have r0 : FsR w0 (calmS S w.heap.size) (w.alloc (.map #[] 0)) := { ha.rest with nt := m0, fa := Kd.R_nil _ _ _ _ _, bB := ⟨h.bB.1, h.bB.2.1, h.be.size⟩, ne := ⟨h.ne.1, by show S.bs ≠ w.heap.size; omega, by show S.bl ≠ w.heap.size; omega⟩, nb := fun k hk => by cases hk }
  have f1 := blk_put ha.fs 4 (.slice none 0 0) rfl
  have f2 := blk_put f1 5 (.map (some w.heap.size)) rfl
  have f3 := blk_put f2 14 (.bool false) rfl
  have f4 := blk_put f3 15 (.int .i64 0) rfl
  have r1 := r0.own (grown_set _ g 4 (.slice none 0 0)) ha.fs h.gB
  have r2 := r1.own (grown_set _ g 5 (.map (some w.heap.size))) f1 h.gB
  have r3 := r2.own (grown_set _ g 14 (.bool false)) f2 h.gB
  have r4 := r3.own (grown_set _ g 15 (.int .i64 0)) f3 h.gB
  exact ⟨⟨(blk_cell ha.fs 4).trans rfl, blk_frozen ha.fs 4⟩, ⟨(blk_cell f1 5).trans rfl, blk_frozen f1 5⟩, ⟨(blk_cell f2 14).trans rfl, blk_frozen f2 14⟩, ⟨(blk_cell f3 15).trans rfl, blk_frozen f3 15⟩, r4.full h.gB f4,
    ((((KeptT.of_below (below_alloc (Below.refl _ _) _)).trans (KeptT.fs (grown_set _ g 4 _) ha.fs)).trans (KeptT.fs (grown_set _ g 5 _) f1)).trans (KeptT.fs (grown_set _ g 14 _) f2)).trans (KeptT.fs (grown_set _ g 15 _) f3)⟩
end Go.Proofs.Ytamhecmopnekjaa.Vf
