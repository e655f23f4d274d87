/- VfsSwitch: its walk. -/
import Derived.Test.YtamhecmopnekjaaVfCl
namespace Go.Proofs.Ytamhecmopnekjaa.Vf
open Go Go.RowKit Go.Maps Go.Proofs.Ytamhecmopnekjaa Go.Proofs.YtamhecmopnekjaaW.PrintWords
set_option linter.unusedVariables false
set_option linter.unusedSimpArgs false

def nmCur : ByteArray := ⟨#[99, 117, 114, 114, 101, 110, 116]⟩
def nmTmp : ByteArray := ⟨#[116, 109, 112]⟩
theorem nm_ne : nmTmp ≠ nmCur := by decide
theorem look_ren {D : Dt} (hm : IsMap D) {s d : ByteArray} {f : Nat} (hl : look D s = some f) (hne : s ≠ d) : look (onD (renameT s d) D) d = some f := by
  unfold onD
  rw [if_neg (show ¬ (renameT s d).op = 1 by show ¬ ((4 : Int) = 1); decide), if_neg (show ¬ (renameT s d).op = 5 by show ¬ ((4 : Int) = 5); decide), if_pos (show (renameT s d).op = 4 from rfl)]
  show look (match look D s with | some f => if s = d then D else (D.del (key s)).put (key d) (fD f) | none => D) d = some f
  rw [hl]
  show look (if s = d then D else (D.del (key s)).put (key d) (fD f)) d = some f
  rw [if_neg hne, look_put (isMap_del hm), if_pos rfl]
/-- A file that is synced whole stays whole. -/
theorem cut_whole {x y : VFile} (h : Cut x y) (hs : x.synced = x.bytes.length) (hy : y.synced = y.bytes.length) : y.bytes = x.bytes := by
  obtain ⟨h1, h2, h3⟩ := h
  exact h1.trans (List.take_of_length_le (by omega))
/-- Where a name's file lies among what a crash keeps. -/
theorem blk_of {w : World} {b n : Nat} {D : Dt} {fb : List Nat} (how : w.ownsMap Try.prog 9 rdF b n D) (hN : Named D fb) {s : ByteArray} {f : Nat} (hl : look D s = some f) : ∃ j, j < (names D).length ∧ blk D j = f := by
  have hm : s ∈ names D := (names_mem how hN s).2 (by rw [hl]; rfl)
  obtain ⟨j, hj, he⟩ := List.mem_iff_getElem.1 hm
  refine ⟨j, hj, ?_⟩
  unfold blk
  rw [List.getD_eq_getElem?_getD, List.getElem?_eq_getElem hj]
  show (look D (names D)[j]).getD 0 = f
  rw [he, hl]
  rfl
theorem new_c (w : World) :
    Calls Try.prog 10 #[.int .i64 16777216] w fun e w' => e = .returned (.tuple #[.pointer (some ⟨w.heap.size + 3, 0, none⟩), .int .i64 0]) ∧ KeptT w w' ∧ ∃ S, Cln w (w.heap.size + 3) 16777216 0 S w' ∧ S.seen = .map [] ∧ S.lasts = .map [] ∧ S.pend = [] ∧ S.fb = [] := by
  refine (new_some 16777216 w (by decide) (by decide)).mono ?_
  rintro e w' ⟨he, hf, hk⟩
  exact ⟨he, hk, _, ⟨⟨hf, inv_st0 _ _ (by decide) (by decide), ⟨Nat.le_refl _, Nat.le_refl _, by decide⟩, rfl⟩, rfl⟩, rfl, rfl, rfl, rfl⟩
theorem appendE_ok {w0 w : World} {g N : Nat} {S : St} {s : ByteArray} {f k : Nat} (h : Cln w0 g 16777216 N S w) (hN : N ≤ 10) (hl : look S.seen s = some f) (hf : (S.fl f).bytes.length = 0) (hk : k ≤ 1048576) : appendE S s k = 0 := by
  have h1 := sum_le S.fl h.up.iv.ok.fs (h.up.fs.se.tidy keyed9) h.up.fs.sn (strKeys_of h.up.fs.se)
  have h2 := h.up.sm.se
  have h3 := h.up.cap
  have h4 : Maps.size S.seen * 1048576 ≤ N * 1048576 := Nat.mul_le_mul_right _ h2
  unfold appendE
  rw [hl]
  show (if 1048576 < (S.fl f).bytes.length + k then (3 : Int) else if S.cap - (sumD S.fl S.seen : Nat) < (k : Int) then 2 else 0) = 0
  rw [if_neg (by omega), if_neg (by omega)]
/-- Behind a crash a file that was synced whole is whole. -/
theorem crashed_whole {w0 w w' : World} {g : Nat} {S S' : St} (h : FsB w0 g S w) (hF : FilesOk S) (hc : Crashed S S') (h' : FsB w0 g S' w') {s : ByteArray} {b : Nat} (hl : look S'.seen s = some b) (hb : (S.fl b).synced = (S.fl b).bytes.length) : (S'.fl b).bytes = (S.fl b).bytes := by
  obtain ⟨dir, ks, bs, bn, hbad, rfl⟩ := hc
  obtain ⟨h1, h2, h3⟩ := bad_false hbad
  have hbm : ∀ j, j < (names (playD (S.pend.take dir.toNat) S.lasts)).length → blk (playD (S.pend.take dir.toNat) S.lasts) j ∈ S.fb := fun j hj => blk_mem h'.se h'.sn j hj
  have hcc := cut_crash (playD (S.pend.take dir.toNat) S.lasts) ks S.fl S.fb hF.fs h3 hbm _ (Nat.le_refl _)
  obtain ⟨j, hj, hbj⟩ := blk_of h'.se h'.sn hl
  have hm := hbm j hj
  have hy := hcc.2 j hj
  have hj2 : blk (playD (S.pend.take dir.toNat) S.lasts) j = b := hbj
  rw [hj2] at hm hy
  exact cut_whole (hcc.1 b hm) hb hy
/-- Which file the name has behind a crash. -/
theorem switch_look {S S' : St} {D : Dt} {b1 b2 : Nat} (hc : Crashed S S') (hm : IsMap D) (hD : look D nmCur = some b1) (hla : S.lasts = D) (hp : S.pend = [createT nmTmp b2, renameT nmTmp nmCur]) : look S'.seen nmCur = some b1 ∨ look S'.seen nmCur = some b2 := by
  obtain ⟨dir, ks, bs, bn, hbad, rfl⟩ := hc
  obtain ⟨h1, h2, h3⟩ := bad_false hbad
  show look (playD (S.pend.take dir.toNat) S.lasts) nmCur = some b1 ∨ look (playD (S.pend.take dir.toNat) S.lasts) nmCur = some b2
  rw [hp] at h2 ⊢
  rw [hla]
  have hon : onD (createT nmTmp b2) D = D.put (key nmTmp) (fD b2) := by unfold onD; rw [if_pos (show (createT nmTmp b2).op = 1 from rfl)]; rfl
  have h4 : dir.toNat = 0 ∨ dir.toNat = 1 ∨ dir.toNat = 2 := by
    have : ([createT nmTmp b2, renameT nmTmp nmCur].length : Int) = 2 := rfl
    omega
  rcases h4 with e | e | e <;> rw [e]
  · exact .inl hD
  · refine .inl ?_
    show look (onD (createT nmTmp b2) D) nmCur = some b1
    rw [hon, look_put hm, if_neg nm_ne.symm]
    exact hD
  · refine .inr ?_
    show look (onD (renameT nmTmp nmCur) (onD (createT nmTmp b2) D)) nmCur = some b2
    rw [hon]
    exact look_ren (isMap_put hm) (by rw [look_put hm, if_pos rfl]) nm_ne
theorem has_bytes {w0 w wf : World} {g f : Nat} {S : St} {s : ByteArray} {A : Option Addr} {c : Nat} (h : FsB w0 g S wf) (hlk : look S.seen s = some f) (hC : kF.C w A (files S).length (files S)) (hc : (files S).length ≤ c) (hl : (files S).length ≤ 2000000000000) :
    Calls Try.prog 17 #[.slice A (files S).length c, .string s] w fun e w' => ∃ b0 A5 c5 i2, e = .returned (.tuple #[.agg #[.string b0, .slice A5 (nb (S.fl f).bytes).length c5, .int .i64 i2], .bool true]) ∧ (nb (S.fl f).bytes).length ≤ c5 ∧ (Kd.int .u8).C w' A5 (nb (S.fl f).bytes).length (nb (S.fl f).bytes) ∧ Below w.heap.size w w' := by
  refine (has_any A c (files S) s w hC hc hl).mono ?_
  rintro e w' ⟨hb, ⟨x, A5, c5, hx, hs, he, h5, C5⟩ | ⟨hn, _⟩⟩
  · unfold files at hx
    obtain ⟨t, ht, rfl⟩ := List.mem_map.1 hx
    obtain rfl : t = s := hs
    have hf1 : (fileX S t).f1 = nb (S.fl f).bytes := by unfold fileX; rw [hlk]; rfl
    rw [hf1] at he h5 C5
    exact ⟨_, _, _, _, he, h5, C5, hb⟩
  · cases hl2 : look S.seen s with
    | none => rw [hlk] at hl2; cases hl2
    | some f' =>
      have hm : s ∈ names S.seen := (names_mem h.se h.sn s).2 (by rw [hlk]; rfl)
      exact absurd rfl (hn (fileX S s) (List.mem_map.2 ⟨s, hm, rfl⟩))
theorem same_any (A : Option Addr) (c : Nat) (xs : List Int) (B : Option Addr) (cb : Nat) (ys : List Int) (w : World) (hA : Kd.C (Kd.int .u8) w A xs.length xs) (hc : xs.length ≤ c) (hB : Kd.C (Kd.int .u8) w B ys.length ys) (hcb : ys.length ≤ cb) (hx : xs.length < 9223372036854775807) :
    Calls Try.prog 19 #[.slice A xs.length c, .slice B ys.length cb] w fun e w' => ∃ r, e = .returned (.bool r) ∧ (xs = ys → r = true) ∧ Below w.heap.size w w' := by
  obtain ⟨r, hr, ht⟩ := sameB_f xs ys hx (xs.length + 1) (Nat.lt_succ_self _)
  refine (PB.atriumlaw01_sameBytes.calls _ A c xs B cb ys r w hA hc hB hcb hr).mono ?_
  rintro e w' ⟨rfl, hb⟩
  exact ⟨r, rfl, ht, hb.below⟩
set_option maxHeartbeats 8000000 in
set_option maxRecDepth 100000 in
theorem switch_any (A : Option Addr) (c : Nat) (xa : List Int) (B : Option Addr) (cb : Nat) (xb : List Int) (d1 : Int) (A1 : Option Addr) (c1 : Nat) (ks1 : List Int) (again : Bool) (w : World) (hA : Kd.C (Kd.int .u8) w A xa.length xa) (hcA : xa.length ≤ c) (hwA : ∀ x ∈ xa, (Lit.int .u8 x).wf = true) (hB : Kd.C (Kd.int .u8) w B xb.length xb) (hcB : xb.length ≤ cb) (hwB : ∀ x ∈ xb, (Lit.int .u8 x).wf = true)
    (hC1 : Kd.C (Kd.int .i64) w A1 ks1.length ks1) (hc1 : ks1.length ≤ c1) :
    Calls Try.prog 3 #[.slice A xa.length c, .slice B xb.length cb, .agg #[.int .i64 d1, .slice A1 ks1.length c1], .bool again] w fun e w' => e = .returned (.bool true) ∧ Below w.heap.size w w' := by
  have huc := Try.underlying25
  have huF := Try.underlying37
  have HA := Aside0.mk (show ∀ w', Below w.heap.size w w' → ReadsInt w' .u8 A (toB xa).length (nb (toB xa)) from fun w' hb => reads_toB (Kd.C_below hA hb) hwA)
  have HBb := Aside0.mk (show ∀ w', Below w.heap.size w w' → ReadsInt w' .u8 B (toB xb).length (nb (toB xb)) from fun w' hb => reads_toB (Kd.C_below hB hb) hwB)
  have HC1 := Aside0.mk hC1
  have HCa := Aside0.mk (show nb (toB xa) = xa ∧ Kd.C (Kd.int .u8) w A xa.length xa from ⟨nb_toB xa hwA, hA⟩)
  have HCb := Aside0.mk (show nb (toB xb) = xb ∧ Kd.C (Kd.int .u8) w B xb.length xb from ⟨nb_toB xb hwB, hB⟩)
  have hma := hA.2.1
  have hmb := hB.2.1
  obtain ⟨la, hla⟩ : ∃ la, xa.length = la := ⟨_, rfl⟩
  obtain ⟨lb, hlb⟩ : ∃ lb, xb.length = lb := ⟨_, rfl⟩
  have hta : (toB xa).length = la := by rw [toB_len]; exact hla
  have htb : (toB xb).length = lb := by rw [toB_len]; exact hlb
  rw [hla] at hcA hma ⊢
  rw [hlb] at hcB hmb ⊢
  rw [hta] at HA
  rw [htb] at HBb
  have Hta := Aside0.mk hta
  have Htb := Aside0.mk htb
  have HLa := Aside0.mk hla
  have HLb := Aside0.mk hlb
  clear hA hB hC1 hwA hwB hta htb hla hlb
  go_enter Try.func3, Try.ntmps3
  have hb0 : Below w.heap.size w (w.alloc (.cells #[.int .i64 d1, .slice A1 ks1.length c1] 25)) := (Below.refl _ _).alloc (Nat.le_refl _) _
  have HX0 := Aside0.mk (heap_alloc_new w (.cells #[.int .i64 d1, .slice A1 ks1.length c1] 25))
  have HB0 := Aside0.mk hb0
  clear hb0
  go_wp2_with (go_at_call 9; refine (lives_any _).mono ?_; rintro e w1 ⟨rfl, hb⟩; have HX1 := Aside0.mk ((hb.block _ (blk_lt HX0.out)).trans HX0.out); have HB1 := Aside0.mk (HB0.out.trans (hb.mono HB0.out.size)); clear hb)
  refine (new_c w1).mono ?_
  rintro e w2 ⟨rfl, hk2, S, hcl, hs1, hs2, hs3, hs4⟩
  have HU2 := Aside0.mk hcl
  have HX2 := Aside0.mk (box_kept hk2 HX1.out)
  have Hs := Aside0.mk (show S.seen = .map [] ∧ S.lasts = .map [] ∧ S.pend = [] ∧ S.fb = [] from ⟨hs1, hs2, hs3, hs4⟩)
  have HB2 := Aside0.mk (HB1.out.trans (hcl.up.fs.be.mono HB1.out.size))
  generalize hg : w1.heap.size + 3 = g at *
  clear hcl hk2 hs1 hs2 hs3 hs4 hg
  by_cases hbig : 1048576 < (la : Int) ∨ 1048576 < (lb : Int)
  · go_wp2
    all_goals go_ret
    all_goals exact ⟨rfl, HB2.out⟩
  have e1 : decide ((1048576 : Int) < (la : Int)) = false := decide_eq_false (by omega)
  have e2 : decide ((1048576 : Int) < (lb : Int)) = false := decide_eq_false (by omega)
  have hla : la ≤ 1048576 := by omega
  have hlb : lb ≤ 1048576 := by omega
  clear hbig
  go_wp2_with (fail)
  have hE1 : createE S nmCur = 0 := by
    unfold createE
    rw [if_pos (by decide), Hs.out.1]
    rfl
  refine (create_c (s := nmCur) HU2.out (by decide) hE1 (by rw [Hs.out.1]; rfl) (by decide)).mono ?_
  clear hE1
  rintro e w3 ⟨rfl, hk3, b1, S3, _, hu3, a3, b3, c3, d3, f3⟩
  have HU3 := Aside0.mk hu3
  have HX3 := Aside0.mk (box_kept hk3 HX2.out)
  have HA3 := Aside0.mk a3
  have HQ3 := Aside0.mk (show S3.fb = [b1] ∧ S3.fl b1 = ⟨[], 0⟩ from ⟨by rw [f3, Hs.out.2.2.2], by rw [d3, updF_same]⟩)
  have HL3 := Aside0.mk (show look S3.seen nmCur = some b1 ∧ look S3.seen nmTmp = none from ⟨by rw [a3, look_put HU2.out.up.fs.se.isMap, if_pos rfl], by rw [a3, look_put HU2.out.up.fs.se.isMap, if_neg nm_ne, Hs.out.1]; rfl⟩)
  clear hk3 hu3 a3 b3 c3 d3 f3 HU2 HX2
  go_wp2_with (fail)
  have hAp := append_c (s := nmCur) (c := c) HU3.out (by decide) HL3.out.1 (M := toB xa) (appendE_ok HU3.out (by decide) HL3.out.1 (by rw [HQ3.out.2]; rfl) (by rw [Hta.out]; exact hla)) (by decide) (by rw [Hta.out]; exact HA.out _ (HB1.out.trans (HU3.out.up.fs.be.mono HB1.out.size))) (by rw [Hta.out]; exact hcA) (by rw [Hta.out]; omega)
  rw [Hta.out] at hAp
  refine hAp.mono ?_
  clear hAp
  rintro e w4 ⟨rfl, hk4, S4, hu4, a4, b4, c4, d4, f4⟩
  have HU4 := Aside0.mk hu4
  have HX4 := Aside0.mk (box_kept hk4 HX3.out)
  have HQ4 := Aside0.mk (show S4.fb = [b1] ∧ S4.fl b1 = ⟨toB xa, 0⟩ from ⟨by rw [f4, HQ3.out.1], by rw [d4, updF_same, HQ3.out.2]; rfl⟩)
  have HL4 := Aside0.mk (show look S4.seen nmCur = some b1 ∧ look S4.seen nmTmp = none from by rw [a4]; exact HL3.out)
  clear hk4 hu4 a4 b4 c4 d4 f4 HU3 HX3 HQ3 HL3 HA3
  go_wp2_with (fail)
  refine (sync_c (s := nmCur) HU4.out (by decide) HL4.out.1 (by decide)).mono ?_
  rintro e w5 ⟨rfl, hk5, S5, hu5, a5, b5, c5, d5, f5⟩
  have HU5 := Aside0.mk hu5
  have HX5 := Aside0.mk (box_kept hk5 HX4.out)
  have HQ5 := Aside0.mk (show S5.fb = [b1] ∧ S5.fl b1 = ⟨toB xa, (toB xa).length⟩ from ⟨by rw [f5, HQ4.out.1], by rw [d5, updF_same, HQ4.out.2]; rfl⟩)
  have HL5 := Aside0.mk (show look S5.seen nmCur = some b1 ∧ look S5.seen nmTmp = none from by rw [a5]; exact HL4.out)
  clear hk5 hu5 a5 b5 c5 d5 f5 HU4 HX4 HQ4 HL4
  go_wp2_with (fail)
  refine (dir_c HU5.out (by decide)).mono ?_
  rintro e w6 ⟨rfl, hk6, S6, hu6, a6, b6, c6, d6, f6⟩
  have HU6 := Aside0.mk hu6
  have HX6 := Aside0.mk (box_kept hk6 HX5.out)
  have HQ6 := Aside0.mk (show S6.fb = [b1] ∧ S6.fl b1 = ⟨toB xa, (toB xa).length⟩ from ⟨by rw [f6, HQ5.out.1], by rw [d6]; exact HQ5.out.2⟩)
  have HL6 := Aside0.mk (show look S6.seen nmCur = some b1 ∧ look S6.seen nmTmp = none ∧ S6.lasts = S6.seen ∧ S6.pend = [] from ⟨by rw [a6]; exact HL5.out.1, by rw [a6]; exact HL5.out.2, by rw [a6, b6], c6⟩)
  clear hk6 hu6 a6 b6 c6 d6 f6 HU5 HX5 HQ5 HL5
  go_wp2_with (fail)
  have hE6 : createE S6 nmTmp = 0 := by
    have hsz := HU6.out.up.sm.se
    unfold createE
    rw [if_pos (by decide), HL6.out.2.1]
    show (if (none : Option Nat).isSome = true then (11 : Int) else if 1024 ≤ Maps.size S6.seen then 2 else 0) = 0
    rw [if_neg (by decide), if_neg (by omega)]
  refine (create_c (s := nmTmp) HU6.out (by decide) hE6 HL6.out.2.1 (by decide)).mono ?_
  clear hE6
  rintro e w7 ⟨rfl, hk7, b2, S7, hb2, hu7, a7, b7, c7, d7, f7⟩
  have hne : b1 ≠ b2 := fun e => hb2 (by rw [HQ6.out.1, e]; exact List.mem_singleton.2 rfl)
  have HU7 := Aside0.mk hu7
  have HX7 := Aside0.mk (box_kept hk7 HX6.out)
  have HQ7 := Aside0.mk (show S7.fl b1 = ⟨toB xa, (toB xa).length⟩ ∧ S7.fl b2 = ⟨[], 0⟩ from ⟨by rw [d7]; exact (if_neg hne).trans HQ6.out.2, by rw [d7, updF_same]⟩)
  have HL7 := Aside0.mk (show look S7.seen nmCur = some b1 ∧ look S7.seen nmTmp = some b2 ∧ S7.lasts = S6.seen ∧ S7.pend = [createT nmTmp b2] from ⟨by rw [a7, look_put HU6.out.up.fs.se.isMap, if_neg nm_ne.symm]; exact HL6.out.1, by rw [a7, look_put HU6.out.up.fs.se.isMap, if_pos rfl], by rw [b7]; exact HL6.out.2.2.1, by rw [c7, HL6.out.2.2.2]; rfl⟩)
  have H6 := Aside0.mk (show look S6.seen nmCur = some b1 ∧ IsMap S6.seen from ⟨HL6.out.1, HU6.out.up.fs.se.isMap⟩)
  clear hk7 hu7 a7 b7 c7 d7 f7 hb2 HU6 HX6 HQ6 HL6
  go_wp2_with (fail)
  have hAp := append_c (s := nmTmp) (c := cb) HU7.out (by decide) HL7.out.2.1 (M := toB xb) (appendE_ok HU7.out (by decide) HL7.out.2.1 (by rw [HQ7.out.2]; rfl) (by rw [Htb.out]; exact hlb)) (by decide) (by rw [Htb.out]; exact HBb.out _ (HB1.out.trans (HU7.out.up.fs.be.mono HB1.out.size))) (by rw [Htb.out]; exact hcB) (by rw [Htb.out]; omega)
  rw [Htb.out] at hAp
  refine hAp.mono ?_
  clear hAp
  rintro e w8 ⟨rfl, hk8, S8, hu8, a8, b8, c8, d8, f8⟩
  have HU8 := Aside0.mk hu8
  have HX8 := Aside0.mk (box_kept hk8 HX7.out)
  have HQ8 := Aside0.mk (show S8.fl b1 = ⟨toB xa, (toB xa).length⟩ ∧ S8.fl b2 = ⟨toB xb, 0⟩ from ⟨by rw [d8]; exact (if_neg hne).trans HQ7.out.1, by rw [d8, updF_same, HQ7.out.2]; rfl⟩)
  have HL8 := Aside0.mk (show look S8.seen nmCur = some b1 ∧ look S8.seen nmTmp = some b2 ∧ S8.lasts = S6.seen ∧ S8.pend = [createT nmTmp b2] from by rw [a8, b8, c8]; exact HL7.out)
  clear hk8 hu8 a8 b8 c8 d8 f8 HU7 HX7 HQ7 HL7
  go_wp2_with (fail)
  refine (sync_c (s := nmTmp) HU8.out (by decide) HL8.out.2.1 (by decide)).mono ?_
  rintro e w9 ⟨rfl, hk9, S9, hu9, a9, b9, c9, d9, f9⟩
  have HU9 := Aside0.mk hu9
  have HX9 := Aside0.mk (box_kept hk9 HX8.out)
  have HQ9 := Aside0.mk (show S9.fl b1 = ⟨toB xa, (toB xa).length⟩ ∧ S9.fl b2 = ⟨toB xb, (toB xb).length⟩ from ⟨by rw [d9]; exact (if_neg hne).trans HQ8.out.1, by rw [d9, updF_same, HQ8.out.2]; rfl⟩)
  have HL9 := Aside0.mk (show look S9.seen nmCur = some b1 ∧ look S9.seen nmTmp = some b2 ∧ S9.lasts = S6.seen ∧ S9.pend = [createT nmTmp b2] from by rw [a9, b9, c9]; exact HL8.out)
  clear hk9 hu9 a9 b9 c9 d9 f9 HU8 HX8 HQ8 HL8
  go_wp2_with (fail)
  have hE9 : renameE S9 nmTmp nmCur = 0 := by
    unfold renameE
    rw [HL9.out.2.1, if_pos (show (some b2).isSome = true from rfl), if_pos (by decide)]
  refine (rename_c (s := nmTmp) (d := nmCur) HU9.out (by decide) hE9 (by decide) (by decide)).mono ?_
  clear hE9
  rintro e w10 ⟨rfl, hk10, S10, hu10, a10, b10, c10, d10, f10⟩
  have HU10 := Aside0.mk hu10
  have HX10 := Aside0.mk (box_kept hk10 HX9.out)
  have HQ10 := Aside0.mk (show S10.fl b1 = ⟨toB xa, (toB xa).length⟩ ∧ S10.fl b2 = ⟨toB xb, (toB xb).length⟩ from by rw [d10]; exact HQ9.out)
  have HL10 := Aside0.mk (show look S10.seen nmCur = some b2 ∧ S10.lasts = S6.seen ∧ S10.pend = [createT nmTmp b2, renameT nmTmp nmCur] from ⟨by rw [a10]; exact look_ren HU9.out.up.fs.se.isMap HL9.out.2.1 nm_ne, by rw [b10]; exact HL9.out.2.2.1, by rw [c10, HL9.out.2.2.2]; rfl⟩)
  clear hk10 hu10 a10 b10 c10 d10 f10 HU9 HX9 HQ9 HL9
  obtain ⟨ag, hag⟩ : ∃ ag, again = ag := ⟨_, rfl⟩
  have HAg := Aside0.mk hag
  clear hag
  cases again
  case' true =>
    go_wp2_with (fail)
    refine (dir_c HU10.out (by decide)).mono ?_
    rintro e w12 ⟨rfl, hk12, S12, hu12, a12, b12, c12, d12, f12⟩
    have HU12 := Aside0.mk hu12
    have HX12 := Aside0.mk (box_kept hk12 HX10.out)
    have HQ12 := Aside0.mk (show S12.fl b1 = ⟨toB xa, (toB xa).length⟩ ∧ S12.fl b2 = ⟨toB xb, (toB xb).length⟩ from by rw [d12]; exact HQ10.out)
    have HD12 := Aside0.mk (show ∀ S', Crashed S12 S' → (look S'.seen nmCur = some b2 ∨ (ag = false ∧ look S'.seen nmCur = some b1)) from fun S' hc => by
      obtain ⟨dir, ks, bs, bn, hbad, rfl⟩ := hc
      refine .inl ?_
      show look (playD (S12.pend.take dir.toNat) S12.lasts) nmCur = some b2
      rw [c12, b12, List.take_nil]
      exact HL10.out.1)
    clear hk12 hu12 a12 b12 c12 d12 f12 HU10 HX10 HQ10 HL10
  case' false =>
    have HD10 := Aside0.mk (show ∀ S', Crashed S10 S' → (look S'.seen nmCur = some b2 ∨ (ag = false ∧ look S'.seen nmCur = some b1)) from fun S' hc => (switch_look hc H6.out.2 H6.out.1 HL10.out.2.1 HL10.out.2.2).elim (fun h => .inr ⟨HAg.out.symm, h⟩) .inl)
    clear HL10
    generalize w10 = w12 at *
    generalize S10 = S12 at *
    have HU12 := HU10
    have HX12 := HX10
    have HQ12 := HQ10
    have HD12 := HD10
    clear HU10 HX10 HQ10 HD10
  all_goals
    have y10 : w12.cell? ⟨w.heap.size, 0, none⟩ = some (.int .i64 d1) := (blk_cell HX12.out 0).trans rfl
    have y11 : w12.cell? ⟨w.heap.size, 1, none⟩ = some (.slice A1 ks1.length c1) := (blk_cell HX12.out 1).trans rfl
    go_wp2_with (fail)
    refine (crash_x HU12.out.up.fs HU12.out.up.sm HU12.out.up.iv.ok (fun w' h1 _ => Kd.reads_of_C (d := (0 : Int)) (Kd.C_below HC1.out (HB1.out.trans (h1.mono HB1.out.size)))) hc1).mono ?_
    rintro e w13 ⟨hk13, hcr⟩
    clear y10 y11
    rcases hcr with ⟨rfl, hf13⟩ | ⟨rfl, S13, hf13, hcr⟩
    case' inl =>
      have HF13 := Aside0.mk hf13
      clear hk13 hf13
      go_wp2_with (fail)
      refine (crash_plain HF13.out HU12.out.up.sm HU12.out.up.iv.ok).mono ?_
      rintro e w14 ⟨hk14, rfl, S14, hf14, hcr⟩
      clear hk14
    case' inr =>
      generalize w13 = w14 at *
      generalize S13 = S14 at *
      have hf14 := hf13
      clear hf13 hk13
    all_goals
      have HF14 := Aside0.mk hf14
      have HCr := Aside0.mk hcr
      have HCm := Aside0.mk (hcr.calm HU12.out.up.fs HU12.out.up.sm HU12.out.up.iv.ok hf14)
      clear hf14 hcr
      obtain ⟨bb, hlk, hby⟩ : ∃ bb, look S14.seen nmCur = some bb ∧ (nb (S14.fl bb).bytes = xb ∨ (ag = false ∧ nb (S14.fl bb).bytes = xa)) := by
        rcases HD12.out _ HCr.out with h | ⟨h0, h⟩
        · exact ⟨b2, h, .inl (by rw [crashed_whole HU12.out.up.fs HU12.out.up.iv.ok HCr.out HF14.out h (by rw [HQ12.out.2]), HQ12.out.2]; exact HCb.out.1)⟩
        · exact ⟨b1, h, .inr ⟨h0, by rw [crashed_whole HU12.out.up.fs HU12.out.up.iv.ok HCr.out HF14.out h (by rw [HQ12.out.1]), HQ12.out.1]; exact HCa.out.1⟩⟩
      have Hlk := Aside0.mk hlk
      have Hby := Aside0.mk hby
      clear hlk hby HCr
      have hlen : (files S14).length ≤ 2000000000000 := by
        have h1 := HCm.out.sm.se
        have h2 := HCm.out.sm.le
        rw [files_len]
        omega
      have hbl : (nb (S14.fl bb).bytes).length < 9223372036854775807 := by
        rw [nb_len]
        have := (HCm.out.ok.fs bb (look_mem HF14.out.sn Hlk.out).1).1
        omega
      go_wp2_with (fail)
      refine (files_any w1 g S14 _ w14 HF14.out HCm.out.sm HCm.out.ok).mono ?_
      rintro e w15 ⟨v15, rfl, hr15, hb15⟩
      obtain ⟨A15, c15, rfl, l15, C15⟩ := Kd.R_reads hr15
      have HF15 := Aside0.mk (HF14.out.below hb15)
      have HC15 := Aside0.mk C15
      clear hr15 hb15 C15
      go_wp2_with (fail)
      refine (has_bytes HF15.out Hlk.out HC15.out l15 hlen).mono ?_
      rintro e w16 ⟨b0, A5, c5, i2, rfl, l5, C5, hb16⟩
      obtain ⟨W7, hW7⟩ : ∃ W7, w16.alloc (.cells #[.string ⟨#[]⟩, .slice none 0 0, .int .i64 0] TF) = W7 := ⟨_, rfl⟩
      have hx7 : W7.heap[w16.heap.size]? = some (.cells #[.string ⟨#[]⟩, .slice none 0 0, .int .i64 0] TF (0, 0)) := by rw [← hW7]; exact heap_alloc_new w16 _
      have p0 : W7.cell? ⟨w16.heap.size, 0, none⟩ = some (.string ⟨#[]⟩) := (blk_cell hx7 0).trans rfl
      have p1 : W7.cell? ⟨w16.heap.size, 1, none⟩ = some (.slice none 0 0) := (blk_cell hx7 1).trans rfl
      have p2 : W7.cell? ⟨w16.heap.size, 2, none⟩ = some (.int .i64 0) := (blk_cell hx7 2).trans rfl
      have g0 := blk_frozen hx7 0
      have g1 := blk_frozen hx7 1
      have g2 := blk_frozen hx7 2
      obtain ⟨hx8, hb8⟩ := has_put (v0 := .string b0) (v1 := .slice A5 (nb (S14.fl bb).bytes).length c5) (v2 := .int .i64 i2) (show Below w16.heap.size w16 W7 by rw [← hW7]; exact below_alloc (Below.refl _ _) _) rfl hx7
      obtain ⟨W8, hW8⟩ : ∃ W8, ((W7.setCell ⟨w16.heap.size, 0, none⟩ (.string b0)).setCell ⟨w16.heap.size, 1, none⟩ (.slice A5 (nb (S14.fl bb).bytes).length c5)).setCell ⟨w16.heap.size, 2, none⟩ (.int .i64 i2) = W8 := ⟨_, rfl⟩
      rw [hW8] at hx8 hb8
      have x1 : W8.cell? ⟨w16.heap.size, 1, none⟩ = some (.slice A5 (nb (S14.fl bb).bytes).length c5) := (blk_cell hx8 1).trans rfl
      have HX8 := Aside0.mk hx8
      have HB8 := Aside0.mk (HB1.out.trans ((HF15.out.be.trans (hb16.mono HF15.out.be.size)).mono HB1.out.size |>.trans (hb8.mono (Nat.le_trans HB1.out.size (Nat.le_trans HF15.out.be.size hb16.size)))))
      have HC8 := Aside0.mk (Kd.C_below C5 hb8)
      clear hb16 hb8 hx7 hx8 C5
      have HS1 := Aside0.mk (same_any A5 c5 _ B cb xb W8 HC8.out l5 (Kd.C_below HCb.out.2 HB8.out) (by rw [HLb.out]; exact hcB) hbl)
      rw [HLb.out] at HS1
      go_wp2_with (fail)
      refine HS1.out.mono ?_
      rintro e w17 ⟨r1, rfl, ht1, hb17⟩
      have HB17 := Aside0.mk (HB8.out.trans (hb17.mono HB8.out.size))
      have HT1 := Aside0.mk ht1
      have x2 : w17.cell? ⟨w16.heap.size, 1, none⟩ = some (.slice A5 (nb (S14.fl bb).bytes).length c5) := (blk_cell ((hb17.block _ (blk_lt HX8.out)).trans HX8.out) 1).trans rfl
      have HC17 := Aside0.mk (Kd.C_below HC8.out hb17)
      clear ht1 hb17 x1
      by_cases hr1 : r1 = true
      · subst hr1
        go_wp2
        go_ret
        exact ⟨rfl, HB17.out⟩
      · obtain rfl : r1 = false := by simpa using hr1
        clear hr1
        obtain ⟨hag, hxa⟩ : ag = false ∧ nb (S14.fl bb).bytes = xa := Hby.out.elim (fun h => absurd (HT1.out h) (by decide)) id
        first
          | exact absurd (HAg.out.trans hag) (by decide)
          | (have HS2 := Aside0.mk (same_any A5 c5 _ A c xa w17 HC17.out l5 (Kd.C_below HCa.out.2 HB17.out) (by rw [HLa.out]; exact hcA) hbl)
             rw [HLa.out] at HS2
             have Hxa := Aside0.mk hxa
             clear hag hxa
             go_wp2_with (fail)
             refine HS2.out.mono ?_
             rintro e w18 ⟨r2, rfl, ht2, hb18⟩
             have HB18 := Aside0.mk (HB17.out.trans (hb18.mono HB17.out.size))
             obtain rfl : r2 = true := ht2 Hxa.out
             clear ht2 hb18
             go_wp2
             go_ret
             exact ⟨rfl, HB18.out⟩)
theorem switch_walk (A : Option Addr) (c : Nat) (xa : List Int) (B : Option Addr) (cb : Nat) (xb : List Int) (cs : Array Value) (y : SCrash) (again : Bool) (W : World) (hA : Kd.C (Kd.int .u8) W A xa.length xa) (hcA : xa.length ≤ c) (hxa : xa.length * 1 ≤ 140737488351232 ∧ ∀ e ∈ xa, (Lit.int .u8 e).wf = true) (hB : Kd.C (Kd.int .u8) W B xb.length xb) (hcB : xb.length ≤ cb) (hxb : xb.length * 1 ≤ 140737488351232 ∧ ∀ e ∈ xb, (Lit.int .u8 e).wf = true) (hK : kCrash.K W y cs.toList) (hy : okC y) :
    Calls Try.prog 3 #[.slice A xa.length c, .slice B xb.length cb, .agg cs, .bool again] W fun e w' => e = .returned (.bool true) ∧ Below W.heap.size W w' := by
  obtain ⟨A1, c1, rfl, h1, h2⟩ := crash_open hK
  exact switch_any A c xa B cb xb y.f0 A1 c1 y.f1 again W hA hcA hxa.2 hB hcB hxb.2 h1 h2
end Go.Proofs.Ytamhecmopnekjaa.Vf
