/- VfsFull: its walk. -/
import Derived.Test.YtamhecmopnekjaaVfHs
namespace Go.Proofs.Ytamhecmopnekjaa.Vf
open Go Go.RowKit Go.Maps Go.Proofs.Ytamhecmopnekjaa Go.Proofs.YtamhecmopnekjaaW.PrintWords
set_option linter.unusedVariables false
set_option linter.unusedSimpArgs false

/-- A file system that stands and has no faults. -/
structure Clean (w0 : World) (g : Nat) (cap : Int) (N : Nat) (S : St) (w : World) : Prop where
  up : Up w0 g cap N S w
  fl : S.flts = []
theorem Clean.below {w0 w w1 : World} {g N : Nat} {cap : Int} {S : St} (h : Clean w0 g cap N S w) (hb : Below w.heap.size w w1) : Clean w0 g cap N S w1 := ⟨h.up.below hb, h.fl⟩
/-- Fail(nil). -/
theorem fail_nilF {w0 w : World} {g N : Nat} {cap : Int} {S : St} (h : Up w0 g cap N S w) :
    Calls Try.prog 21 #[.pointer (some ⟨g, 0, none⟩), .slice none 0 0] w fun e w' => e = .returned (.int .i64 0) ∧ KeptT w w' ∧ ∃ S', Clean w0 g cap N S' w' := by
  refine (fail_any w0 g S none 0 [] w h.fs ⟨rfl, by decide, fun h => absurd h (Nat.lt_irrefl 0)⟩ (Nat.le_refl _) (fun x hx => by cases hx)).mono ?_
  rintro e w' ⟨hk, ⟨hne, _⟩ | ⟨he, fv, b, hf⟩⟩
  · exact absurd rfl hne
  · exact ⟨he, hk, _, ⟨hf, inv_fail S fv [] b h.iv, ⟨h.sm.se, h.sm.la, h.sm.le⟩, h.cap⟩, rfl⟩
theorem left_rng {w0 w : World} {g N : Nat} {cap : Int} {S : St} (h : Up w0 g cap N S w) : 0 ≤ S.cap - (sumD S.fl S.seen : Nat) ∧ S.cap - (sumD S.fl S.seen : Nat) ≤ cap := by
  have := h.iv.room
  have := h.cap
  omega
theorem has_look {w0 w : World} {g : Nat} {S : St} (h : FsB w0 g S w) {x : SF} {s : ByteArray} (hx : x ∈ files S) (hs : x.f0 = s) : ∃ f, look S.seen s = some f ∧ x.f1.length = (S.fl f).bytes.length := by
  unfold files at hx
  obtain ⟨t, ht, rfl⟩ := List.mem_map.1 hx
  obtain rfl : t = s := hs
  obtain ⟨f, hf⟩ := Option.isSome_iff_exists.1 ((names_mem h.se h.sn t).1 ht)
  refine ⟨f, hf, ?_⟩
  show (nb (S.fl ((look S.seen t).getD 0)).bytes).length = _
  rw [hf]
  exact List.length_map _
theorem has_none {w0 w : World} {g : Nat} {S : St} (h : FsB w0 g S w) {s : ByteArray} (hx : ∀ x ∈ files S, x.f0 ≠ s) : look S.seen s = none := by
  cases hl : look S.seen s with
  | none => rfl
  | some f =>
    have hm : s ∈ names S.seen := (names_mem h.se h.sn s).2 (by rw [hl]; rfl)
    exact absurd rfl (hx (fileX S s) (List.mem_map.2 ⟨s, hm, rfl⟩))
theorem infoBy : (Try.prog.info? 5).map (fun i => (i.zero, i.size, i.bytes)) = some (some (.int .u8 0), 1, 1) := by kernel_rfl
def zs (k : Nat) : List UInt8 := List.replicate k 0
theorem zs_len (k : Nat) : (zs k).length = k := List.length_replicate
/-- make([]byte, k): the world behind it, and how it reads. -/
theorem made_bytes (k : Nat) (hk : k ≤ 1048576) (w : World) : ∃ W, (Instr.makeSlice 22 (.int .i64 (k : Int)) (.int .i64 (k : Int))).run Try.prog w = .ok (.slice (some ⟨w.heap.size, 0, none⟩) k k) W ∧ Below w.heap.size w W ∧ ReadsInt W .u8 (some ⟨w.heap.size, 0, none⟩) (zs k).length (nb (zs k)) := by
  have km := print_make (P := Try.prog) 22 5 .u8 1 Try.underlying22 infoBy (by decide) k (by omega) w
  refine ⟨_, km, below_alloc (Below.refl _ _) _, ?_⟩
  have h1 := own_made w w.heap.size 5 .u8 k (Nat.le_refl _) (by omega)
  have h2 : (Kd.int .u8).R 5 (w.alloc (.cells (madeCells #[.int .u8 0] k) 5)) w.heap.size (fun _ => True) (.slice (some ⟨w.heap.size, 0, none⟩) k k) (List.replicate k 0) :=
    Kd.R_of_own (enc := Value.int .u8) (xs := List.replicate k 0) (by rw [List.length_replicate]; exact h1) (fun _ _ => trivial)
  have h3 := Kd.reads_of_C (d := (0 : Int)) (Kd.R_reads' h2).2.2
  have he : nb (zs k) = List.replicate k 0 := by
    unfold nb zs
    rw [List.map_replicate]
    rfl
  rw [he, zs_len]
  rw [List.length_replicate] at h3
  exact h3
theorem append_no {w0 w : World} {g N : Nat} {cap : Int} {S : St} {s : ByteArray} {A : Option Addr} {c : Nat} {M : List UInt8} {r : Int} (h : Clean w0 g cap N S w) (hr : appendE S s M.length = r) (hr0 : r ≠ 0) (hs : s.size ≤ 9223372036854775807) (HR : ReadsInt w .u8 A M.length (nb M)) (hnc : M.length ≤ c) (hl : M.length ≤ 140737488351232) :
    Calls Try.prog 12 #[.pointer (some ⟨g, 0, none⟩), .string s, .slice A M.length c] w fun e w' => e = .returned (.int .i64 r) ∧ KeptT w w' ∧ Clean w0 g cap N S w' := by
  refine (append_any w0 g S N s A c M w h.up.fs h.up.sm h.up.iv.ok hs HR hnc hl).mono ?_
  rintro e w' (⟨_, he, hf, hk⟩ | ⟨hz, _⟩)
  · rw [hr] at he; exact ⟨he, hk, ⟨hf, h.up.iv, h.up.sm, h.up.cap⟩, h.fl⟩
  · rw [hr] at hz; exact absurd hz hr0
theorem append_yes {w0 w : World} {g N : Nat} {cap : Int} {S : St} {s : ByteArray} {f : Nat} {A : Option Addr} {c : Nat} {M : List UInt8} (h : Clean w0 g cap N S w) (hM : N + 1 ≤ 2000000000000) (hlk : look S.seen s = some f) (hr : appendE S s M.length = 0) (hs : s.size ≤ 9223372036854775807) (HR : ReadsInt w .u8 A M.length (nb M)) (hnc : M.length ≤ c) (hl : M.length ≤ 140737488351232) :
    Calls Try.prog 12 #[.pointer (some ⟨g, 0, none⟩), .string s, .slice A M.length c] w fun e w' => e = .returned (.int .i64 0) ∧ KeptT w w' ∧ ∃ S', Clean w0 g cap (N + 1) S' w' ∧ S'.seen = S.seen ∧ S'.fl = updF S.fl f (appX (S.fl f) M) := by
  refine (append_any w0 g S N s A c M w h.up.fs h.up.sm h.up.iv.ok hs HR hnc hl).mono ?_
  rintro e w' (⟨hne, _⟩ | ⟨hz, f', hl', ho⟩)
  · exact absurd hr hne
  · rw [hlk] at hl'
    obtain rfl : f = f' := by injection hl'
    obtain ⟨he, hk, o', nth', hf⟩ := ho.clean h.fl
    exact ⟨he, hk, _, ⟨⟨hf, inv_append S o' nth' s f M h.up.iv (h.up.fs.se.tidy keyed9) h.up.fs.sn (strKeys_of h.up.fs.se) hlk hz, small_same o' nth' _ h.up.sm hM, h.up.cap⟩, h.fl⟩, rfl, rfl⟩
theorem remove_yes {w0 w : World} {g N : Nat} {cap : Int} {S : St} {s : ByteArray} {f : Nat} (h : Clean w0 g cap N S w) (hM : N + 1 ≤ 2000000000000) (hlk : look S.seen s = some f) (hs : s.size ≤ 9223372036854775807) :
    Calls Try.prog 24 #[.pointer (some ⟨g, 0, none⟩), .string s] w fun e w' => e = .returned (.int .i64 0) ∧ KeptT w w' ∧ ∃ S', Clean w0 g cap (N + 1) S' w' ∧ S'.seen = S.seen.del (key s) ∧ S'.fl = S.fl := by
  refine (remove_any w0 g S N s w h.up.fs h.up.sm hs).mono ?_
  rintro e w' (⟨hne, _⟩ | ⟨hz, ho⟩)
  · unfold removeE at hne; rw [hlk, if_pos (show (some f).isSome = true from rfl)] at hne; exact absurd hne (by decide)
  · obtain ⟨he, hk, o', nth', pv', hf⟩ := ho.clean h.fl
    have hon : onD (removeT s) S.seen = S.seen.del (key s) := by unfold onD; rw [if_neg (show ¬ (removeT s).op = 1 by show ¬ ((5 : Int) = 1); decide), if_pos (show (removeT s).op = 5 from rfl)]; rfl
    exact ⟨he, hk, _, ⟨⟨hf, inv_remove S o' nth' pv' s h.up.iv h.up.fs.se.isMap, small_turn _ _ _ _ h.up hM, h.up.cap⟩, h.fl⟩, hon, rfl⟩
theorem has_yes {w0 w wf : World} {g f : Nat} {S : St} {s : ByteArray} {A : Option Addr} {c : Nat} (h : FsB w0 g S wf) (hlk : look S.seen s = some f) (hC : kF.C w A (files S).length (files S)) (hc : (files S).length ≤ c) (hl : (files S).length ≤ 2000000000000) :
    Calls Try.prog 17 #[.slice A (files S).length c, .string s] w fun e w' => ∃ b0 A5 c5 i2, e = .returned (.tuple #[.agg #[.string b0, .slice A5 (S.fl f).bytes.length c5, .int .i64 i2], .bool true]) ∧ Below w.heap.size w w' := by
  refine (has_any A c (files S) s w hC hc hl).mono ?_
  rintro e w' ⟨hb, ⟨x, A5, c5, hx, hs, he, _⟩ | ⟨hn, _⟩⟩
  · obtain ⟨f', hf', hlen⟩ := has_look h hx hs
    rw [hlk] at hf'
    obtain rfl : f = f' := by injection hf'
    rw [hlen] at he
    exact ⟨_, _, _, _, he, hb⟩
  · rw [has_none h hn] at hlk; cases hlk
theorem has_no {w0 w wf : World} {g : Nat} {S : St} {s : ByteArray} {A : Option Addr} {c : Nat} (h : FsB w0 g S wf) (hlk : look S.seen s = none) (hC : kF.C w A (files S).length (files S)) (hc : (files S).length ≤ c) (hl : (files S).length ≤ 2000000000000) :
    Calls Try.prog 17 #[.slice A (files S).length c, .string s] w fun e w' => e = .returned (.tuple #[.agg #[.string ⟨#[]⟩, .slice none 0 0, .int .i64 0], .bool false]) ∧ Below w.heap.size w w' := by
  refine (has_any A c (files S) s w hC hc hl).mono ?_
  rintro e w' ⟨hb, ⟨x, A5, c5, hx, hs, he, _⟩ | ⟨hn, he⟩⟩
  · obtain ⟨f', hf', hlen⟩ := has_look h hx hs
    rw [hlk] at hf'; cases hf'
  · exact ⟨he, hb⟩
set_option maxHeartbeats 8000000 in
set_option maxRecDepth 100000 in
theorem full_any (cap : Int) (A : Option Addr) (c : Nat) (xs : List SOp) (s : ByteArray) (n : Int) (w : World) (hC : Kd.C kOp w A xs.length xs) (hc : xs.length ≤ c) (hl : xs.length ≤ 1500000000000) (hok : ∀ x ∈ xs, OpOk x) (hs : s.size ≤ 140737488351232) :
    Calls Try.prog 6 #[.int .i64 cap, .slice A xs.length c, .string s, .int .i64 n] w fun e w' => e = .returned (.bool true) ∧ Below w.heap.size w w' := by
  have huF := Try.underlying37
  have HC := Aside0.mk hC
  have Hok := Aside0.mk hok
  clear hC hok
  go_enter Try.func6, Try.ntmps6
  go_wp2_with (go_at_call 9; refine (lives_any _).mono ?_; rintro e w1 ⟨rfl, hb⟩; have HB1 := Aside0.mk hb; clear hb)
  refine (plays_any cap A c xs w1 (Kd.C_below HC.out HB1.out) hc hl Hok.out).mono ?_
  rintro e w2 ⟨hb2, rfl | ⟨g, S0, rfl, hc0, hc3, hu⟩⟩
  · have HB2 := Aside0.mk (HB1.out.trans (hb2.mono HB1.out.size))
    clear hb2
    go_wp2
    go_ret
    exact ⟨rfl, HB2.out⟩
  have HU0 := Aside0.mk hu
  clear hb2 hu
  go_wp2_with (fail)
  refine (fail_nilF HU0.out).mono ?_
  rintro e w3 ⟨rfl, _, S, hcl⟩
  have HU := Aside0.mk hcl
  clear hcl HU0
  go_wp2_with (fail)
  refine (files_any w1 g S _ w3 HU.out.up.fs HU.out.up.sm HU.out.up.iv.ok).mono ?_
  rintro e w4 ⟨v4, rfl, hr4, hb4⟩
  obtain ⟨A4, c4, rfl, l4, C4⟩ := Kd.R_reads hr4
  have HU4 := Aside0.mk (HU.out.below hb4)
  have HR4 := Aside0.mk hr4
  clear hr4 hb4 C4
  go_wp2_with (fail)
  refine (left_any w1 g S _ w4 HU4.out.up.fs HU4.out.up.sm HU4.out.up.iv.ok).mono ?_
  rintro e w5 ⟨rfl, hb5⟩
  have HU5 := Aside0.mk (HU4.out.below hb5)
  have HR5 := Aside0.mk (Kd.R_below HR4.out hb5)
  have HL := Aside0.mk (left_rng HU.out.up)
  obtain ⟨hl0, hl1⟩ := left_rng HU.out.up
  have HB5 := Aside0.mk (HB1.out.trans (HU5.out.up.fs.be.mono HB1.out.size))
  obtain ⟨left, hleft⟩ : ∃ left, S.cap - (sumD S.fl S.seen : Nat) = left := ⟨_, rfl⟩
  rw [hleft] at hl0 hl1 ⊢
  have HLe := Aside0.mk hleft
  clear hb5 HU HU4 HR4 hleft
  have d0 : decide (left < 0) = false := decide_eq_false (by omega)
  have d1 : decide (cap < left) = false := decide_eq_false (by omega)
  by_cases hn : n < 0 ∨ 1048576 < n
  · go_wp2
    all_goals go_ret
    all_goals exact ⟨rfl, HB5.out⟩
  obtain ⟨k, rfl⟩ : ∃ k : Nat, n = (k : Int) := ⟨n.toNat, by omega⟩
  have d2 : decide ((k : Int) < 0) = false := decide_eq_false (by omega)
  have d3 : decide ((1048576 : Int) < (k : Int)) = false := decide_eq_false (by omega)
  have hk : k ≤ 1048576 := by omega
  clear hn
  obtain ⟨W5, km, hbk, hrk⟩ := made_bytes k hk w5
  have HU6 := Aside0.mk (HU5.out.below hbk)
  have HR6 := Aside0.mk (Kd.R_below HR5.out hbk)
  have HRk := Aside0.mk hrk
  clear hbk hrk HU5 HR5
  have hlen : (files S).length ≤ 2000000000000 := by
    have := HU6.out.up.sm.se
    have := HU6.out.up.sm.le
    rw [files_len]
    omega
  have HSf := Aside0.mk (sameF_f (files S) 1048576 (by omega) (by decide) (files_le HU6.out.up.fs HU6.out.up.iv.ok))
  go_wp2_with (fail)
  cases hlk : look S.seen s with
  | none =>
    have hE : appendE S s (zs k).length = 4 := by unfold appendE; rw [hlk]
    have HAp := append_no HU6.out hE (by decide) (by omega) HRk.out (c := k) (by rw [zs_len]; exact Nat.le_refl _) (by rw [zs_len]; omega)
    rw [zs_len] at HAp
    refine HAp.mono ?_
    clear HAp hE km
    rintro e w6 ⟨rfl, hk6, hu6⟩
    have HU7 := Aside0.mk hu6
    have HR7 := Aside0.mk (files_kept hk6 HR6.out)
    have Hlk := Aside0.mk hlk
    clear hk6 hu6 hlk
    go_wp2_with (fail)
    refine (has_no HU7.out.up.fs Hlk.out (Kd.R_reads' HR7.out).2.2 l4 hlen).mono ?_
    rintro e w7 ⟨rfl, hb7⟩
    obtain ⟨W7, hW7⟩ : ∃ W7, w7.alloc (.cells #[.string ⟨#[]⟩, .slice none 0 0, .int .i64 0] TF) = W7 := ⟨_, rfl⟩
    have hx7 : W7.heap[w7.heap.size]? = some (.cells #[.string ⟨#[]⟩, .slice none 0 0, .int .i64 0] TF (0, 0)) := by rw [← hW7]; exact heap_alloc_new w7 _
    have p0 : W7.cell? ⟨w7.heap.size, 0, none⟩ = some (.string ⟨#[]⟩) := (blk_cell hx7 0).trans rfl
    have p1 : W7.cell? ⟨w7.heap.size, 1, none⟩ = some (.slice none 0 0) := (blk_cell hx7 1).trans rfl
    have p2 : W7.cell? ⟨w7.heap.size, 2, none⟩ = some (.int .i64 0) := (blk_cell hx7 2).trans rfl
    have g0 := blk_frozen hx7 0
    have g1 := blk_frozen hx7 1
    have g2 := blk_frozen hx7 2
    obtain ⟨hx8, hb8⟩ := has_put (v0 := .string ⟨#[]⟩) (v1 := .slice none 0 0) (v2 := .int .i64 0) (show Below w7.heap.size w7 W7 by rw [← hW7]; exact below_alloc (Below.refl _ _) _) rfl hx7
    obtain ⟨W8, hW8⟩ : ∃ W8, ((W7.setCell ⟨w7.heap.size, 0, none⟩ (.string ⟨#[]⟩)).setCell ⟨w7.heap.size, 1, none⟩ (.slice none 0 0)).setCell ⟨w7.heap.size, 2, none⟩ (.int .i64 0) = W8 := ⟨_, rfl⟩
    rw [hW8] at hx8 hb8
    have x1 : W8.cell? ⟨w7.heap.size, 1, none⟩ = some (.slice none 0 0) := (blk_cell hx8 1).trans rfl
    have hb7' : Below w6.heap.size w6 W8 := hb7.trans (hb8.mono hb7.size)
    have HU8 := Aside0.mk (HU7.out.below hb7')
    have HR8 := Aside0.mk (Kd.R_below HR7.out hb7')
    clear hb7 hb7' HU7 HR7 hb8 hx7 hx8
    go_wp2_with (fail)
    refine (files_any w1 g S _ W8 HU8.out.up.fs HU8.out.up.sm HU8.out.up.iv.ok).mono ?_
    rintro e w8 ⟨v8, rfl, hr8, hb8⟩
    obtain ⟨A8, c8, rfl, l8, C8⟩ := Kd.R_reads hr8
    have HCa := Aside0.mk C8
    have HCb := Aside0.mk (Kd.R_reads' (Kd.R_below HR8.out hb8)).2.2
    have HB8 := Aside0.mk (HB1.out.trans ((HU8.out.up.fs.be.trans (hb8.mono HU8.out.up.fs.be.size)).mono HB1.out.size))
    clear hr8 hb8 C8
    go_wp2_with (fail)
    refine (PB.atriumlaw01_SameFiles.calls _ A8 c8 (files S) A4 c4 (files S) true w8 HCa.out l8 HCb.out l4 HSf.out).mono ?_
    rintro e w9 ⟨rfl, hb9⟩
    have HB9 := Aside0.mk (HB8.out.trans (hb9.mono HB8.out.size))
    clear hb9
    go_wp2
    go_ret
    exact ⟨rfl, HB9.out⟩
  | some f =>
    have hfm := (look_mem HU6.out.up.fs.sn hlk).1
    have hfl := (HU6.out.up.iv.ok.fs f hfm).1
    have hE : appendE S s (zs k).length = (if 1048576 < (S.fl f).bytes.length + k then 3 else if left < (k : Int) then 2 else 0) := by
      unfold appendE
      rw [hlk]
      simp only [zs_len, HLe.out]
    by_cases q1 : 1048576 < (S.fl f).bytes.length + k
    · rw [if_pos q1] at hE
      have HAp := append_no HU6.out hE (by decide) (by omega) HRk.out (c := k) (by rw [zs_len]; exact Nat.le_refl _) (by rw [zs_len]; omega)
      rw [zs_len] at HAp
      refine HAp.mono ?_
      clear HAp hE km
      rintro e w6 ⟨rfl, hk6, hu6⟩
      have HU7 := Aside0.mk hu6
      have HR7 := Aside0.mk (files_kept hk6 HR6.out)
      have Hlk := Aside0.mk hlk
      clear hk6 hu6 hlk
      go_wp2_with (fail)
      refine (has_yes HU7.out.up.fs Hlk.out (Kd.R_reads' HR7.out).2.2 l4 hlen).mono ?_
      rintro e w7 ⟨b0, A5, c5, i2, rfl, hb7⟩
      obtain ⟨W7, hW7⟩ : ∃ W7, w7.alloc (.cells #[.string ⟨#[]⟩, .slice none 0 0, .int .i64 0] TF) = W7 := ⟨_, rfl⟩
      have hx7 : W7.heap[w7.heap.size]? = some (.cells #[.string ⟨#[]⟩, .slice none 0 0, .int .i64 0] TF (0, 0)) := by rw [← hW7]; exact heap_alloc_new w7 _
      have p0 : W7.cell? ⟨w7.heap.size, 0, none⟩ = some (.string ⟨#[]⟩) := (blk_cell hx7 0).trans rfl
      have p1 : W7.cell? ⟨w7.heap.size, 1, none⟩ = some (.slice none 0 0) := (blk_cell hx7 1).trans rfl
      have p2 : W7.cell? ⟨w7.heap.size, 2, none⟩ = some (.int .i64 0) := (blk_cell hx7 2).trans rfl
      have g0 := blk_frozen hx7 0
      have g1 := blk_frozen hx7 1
      have g2 := blk_frozen hx7 2
      obtain ⟨hx8, hb8⟩ := has_put (v0 := .string b0) (v1 := .slice A5 (S.fl f).bytes.length c5) (v2 := .int .i64 i2) (show Below w7.heap.size w7 W7 by rw [← hW7]; exact below_alloc (Below.refl _ _) _) rfl hx7
      obtain ⟨W8, hW8⟩ : ∃ W8, ((W7.setCell ⟨w7.heap.size, 0, none⟩ (.string b0)).setCell ⟨w7.heap.size, 1, none⟩ (.slice A5 (S.fl f).bytes.length c5)).setCell ⟨w7.heap.size, 2, none⟩ (.int .i64 i2) = W8 := ⟨_, rfl⟩
      rw [hW8] at hx8 hb8
      have x1 : W8.cell? ⟨w7.heap.size, 1, none⟩ = some (.slice A5 (S.fl f).bytes.length c5) := (blk_cell hx8 1).trans rfl
      have hb7' : Below w6.heap.size w6 W8 := hb7.trans (hb8.mono hb7.size)
      have HU8 := Aside0.mk (HU7.out.below hb7')
      have HR8 := Aside0.mk (Kd.R_below HR7.out hb7')
      clear hb7 hb7' HU7 HR7 hb8 hx7 hx8
      have q2 : decide ((1048576 : Int) < ((S.fl f).bytes.length : Int) + (k : Int)) = true := decide_eq_true (by omega)
      have q3 : IntKind.i64.wrap (((S.fl f).bytes.length : Int) + (k : Int)) = ((S.fl f).bytes.length : Int) + (k : Int) := IntWalk.i64_in _ ⟨by omega, by omega⟩
      clear q1
      go_wp2_with (fail)
      refine (files_any w1 g S _ W8 HU8.out.up.fs HU8.out.up.sm HU8.out.up.iv.ok).mono ?_
      rintro e w8 ⟨v8, rfl, hr8, hb8⟩
      obtain ⟨A8, c8, rfl, l8, C8⟩ := Kd.R_reads hr8
      have HCa := Aside0.mk C8
      have HCb := Aside0.mk (Kd.R_reads' (Kd.R_below HR8.out hb8)).2.2
      have HU9 := Aside0.mk (HU8.out.below hb8)
      clear hr8 hb8 C8
      go_wp2_with (fail)
      refine (PB.atriumlaw01_SameFiles.calls _ A8 c8 (files S) A4 c4 (files S) true w8 HCa.out l8 HCb.out l4 HSf.out).mono ?_
      rintro e w9 ⟨rfl, hb9⟩
      have HU10 := Aside0.mk (HU9.out.below hb9)
      have HB9 := Aside0.mk (HB1.out.trans (HU10.out.up.fs.be.mono HB1.out.size))
      clear hb9
      go_wp2
      go_ret
      exact ⟨rfl, HB9.out⟩
    · rw [if_neg q1] at hE
      have q2 : decide ((1048576 : Int) < ((S.fl f).bytes.length : Int) + (k : Int)) = false := decide_eq_false (by omega)
      have q3 : IntKind.i64.wrap (((S.fl f).bytes.length : Int) + (k : Int)) = ((S.fl f).bytes.length : Int) + (k : Int) := IntWalk.i64_in _ ⟨by omega, by omega⟩
      by_cases q4 : left < (k : Int)
      · rw [if_pos q4] at hE
        have q5 : decide (left < (k : Int)) = true := decide_eq_true q4
        have HAp := append_no HU6.out hE (by decide) (by omega) HRk.out (c := k) (by rw [zs_len]; exact Nat.le_refl _) (by rw [zs_len]; omega)
        rw [zs_len] at HAp
        refine HAp.mono ?_
        clear HAp hE km
        rintro e w6 ⟨rfl, hk6, hu6⟩
        have HU7 := Aside0.mk hu6
        have HR7 := Aside0.mk (files_kept hk6 HR6.out)
        have Hlk := Aside0.mk hlk
        clear hk6 hu6 hlk
        go_wp2_with (fail)
        refine (has_yes HU7.out.up.fs Hlk.out (Kd.R_reads' HR7.out).2.2 l4 hlen).mono ?_
        rintro e w7 ⟨b0, A5, c5, i2, rfl, hb7⟩
        obtain ⟨W7, hW7⟩ : ∃ W7, w7.alloc (.cells #[.string ⟨#[]⟩, .slice none 0 0, .int .i64 0] TF) = W7 := ⟨_, rfl⟩
        have hx7 : W7.heap[w7.heap.size]? = some (.cells #[.string ⟨#[]⟩, .slice none 0 0, .int .i64 0] TF (0, 0)) := by rw [← hW7]; exact heap_alloc_new w7 _
        have p0 : W7.cell? ⟨w7.heap.size, 0, none⟩ = some (.string ⟨#[]⟩) := (blk_cell hx7 0).trans rfl
        have p1 : W7.cell? ⟨w7.heap.size, 1, none⟩ = some (.slice none 0 0) := (blk_cell hx7 1).trans rfl
        have p2 : W7.cell? ⟨w7.heap.size, 2, none⟩ = some (.int .i64 0) := (blk_cell hx7 2).trans rfl
        have g0 := blk_frozen hx7 0
        have g1 := blk_frozen hx7 1
        have g2 := blk_frozen hx7 2
        obtain ⟨hx8, hb8⟩ := has_put (v0 := .string b0) (v1 := .slice A5 (S.fl f).bytes.length c5) (v2 := .int .i64 i2) (show Below w7.heap.size w7 W7 by rw [← hW7]; exact below_alloc (Below.refl _ _) _) rfl hx7
        obtain ⟨W8, hW8⟩ : ∃ W8, ((W7.setCell ⟨w7.heap.size, 0, none⟩ (.string b0)).setCell ⟨w7.heap.size, 1, none⟩ (.slice A5 (S.fl f).bytes.length c5)).setCell ⟨w7.heap.size, 2, none⟩ (.int .i64 i2) = W8 := ⟨_, rfl⟩
        rw [hW8] at hx8 hb8
        have x1 : W8.cell? ⟨w7.heap.size, 1, none⟩ = some (.slice A5 (S.fl f).bytes.length c5) := (blk_cell hx8 1).trans rfl
        have hb7' : Below w6.heap.size w6 W8 := hb7.trans (hb8.mono hb7.size)
        have HU8 := Aside0.mk (HU7.out.below hb7')
        have HR8 := Aside0.mk (Kd.R_below HR7.out hb7')
        clear hb7 hb7' HU7 HR7 hb8 hx7 hx8
        clear q1 q4
        go_wp2_with (fail)
        refine (files_any w1 g S _ W8 HU8.out.up.fs HU8.out.up.sm HU8.out.up.iv.ok).mono ?_
        rintro e w8 ⟨v8, rfl, hr8, hb8⟩
        obtain ⟨A8, c8, rfl, l8, C8⟩ := Kd.R_reads hr8
        have HCa := Aside0.mk C8
        have HCb := Aside0.mk (Kd.R_reads' (Kd.R_below HR8.out hb8)).2.2
        have HU9 := Aside0.mk (HU8.out.below hb8)
        clear hr8 hb8 C8
        go_wp2_with (fail)
        refine (PB.atriumlaw01_SameFiles.calls _ A8 c8 (files S) A4 c4 (files S) true w8 HCa.out l8 HCb.out l4 HSf.out).mono ?_
        rintro e w9 ⟨rfl, hb9⟩
        have HU10 := Aside0.mk (HU9.out.below hb9)
        have HB9 := Aside0.mk (HB1.out.trans (HU10.out.up.fs.be.mono HB1.out.size))
        clear hb9
        go_wp2_with (fail)
        refine (left_any w1 g S _ w9 HU10.out.up.fs HU10.out.up.sm HU10.out.up.iv.ok).mono ?_
        rintro e w10 ⟨rfl, hb10⟩
        have HB10 := Aside0.mk (HB9.out.trans (hb10.mono HB9.out.size))
        clear hb10
        rw [HLe.out]
        go_wp2
        go_ret
        exact ⟨rfl, HB10.out⟩
      · rw [if_neg q4] at hE
        have q5 : decide (left < (k : Int)) = false := decide_eq_false q4
        have hM : xs.length + 1 ≤ 2000000000000 := by omega
        have HAp := append_yes HU6.out hM hlk hE (by omega) HRk.out (c := k) (by rw [zs_len]; exact Nat.le_refl _) (by rw [zs_len]; omega)
        rw [zs_len] at HAp
        refine HAp.mono ?_
        clear HAp hE km
        rintro e w6 ⟨rfl, hk6, S2, hu6, he6, hf6⟩
        have hsm2 : S2.cap - (sumD S2.fl S2.seen : Nat) = left - (k : Int) := by
          have h1 := sum_upd S.fl (HU6.out.up.fs.se.tidy keyed9) HU6.out.up.fs.sn (strKeys_of HU6.out.up.fs.se) HU6.out.up.iv.inj (appX (S.fl f) (zs k)) hlk
          have h2 : (appX (S.fl f) (zs k)).bytes.length = (S.fl f).bytes.length + k := by show ((S.fl f).bytes ++ zs k).length = _; rw [List.length_append, zs_len]
          have h3 := HLe.out
          have h4 := hu6.up.cap
          have h5 := HU6.out.up.cap
          rw [he6, hf6]
          omega
        have hdel : sumD S2.fl (S2.seen.del (key s)) + (S.fl f).bytes.length + k = sumD S2.fl S2.seen := by
          have h1 := sum_del S2.fl (hu6.up.fs.se.tidy keyed9) hu6.up.fs.sn (show look S2.seen s = some f by rw [he6]; exact hlk)
          have h2 : (S2.fl f).bytes.length = (S.fl f).bytes.length + k := by rw [hf6, updF_same]; show ((S.fl f).bytes ++ zs k).length = _; rw [List.length_append, zs_len]
          omega
        have HU7 := Aside0.mk hu6
        have HR7 := Aside0.mk (files_kept hk6 HR6.out)
        have Hlk := Aside0.mk hlk
        have Hlk2 := Aside0.mk (show look S2.seen s = some f by rw [he6]; exact hlk)
        have Hs2 := Aside0.mk hsm2
        have Hdel := Aside0.mk hdel
        clear hk6 hu6 hlk he6 hf6 hsm2 hdel
        go_wp2_with (fail)
        refine (has_yes HU6.out.up.fs Hlk.out (Kd.R_reads' HR7.out).2.2 l4 hlen).mono ?_
        rintro e w7 ⟨b0, A5, c5, i2, rfl, hb7⟩
        obtain ⟨W7, hW7⟩ : ∃ W7, w7.alloc (.cells #[.string ⟨#[]⟩, .slice none 0 0, .int .i64 0] TF) = W7 := ⟨_, rfl⟩
        have hx7 : W7.heap[w7.heap.size]? = some (.cells #[.string ⟨#[]⟩, .slice none 0 0, .int .i64 0] TF (0, 0)) := by rw [← hW7]; exact heap_alloc_new w7 _
        have p0 : W7.cell? ⟨w7.heap.size, 0, none⟩ = some (.string ⟨#[]⟩) := (blk_cell hx7 0).trans rfl
        have p1 : W7.cell? ⟨w7.heap.size, 1, none⟩ = some (.slice none 0 0) := (blk_cell hx7 1).trans rfl
        have p2 : W7.cell? ⟨w7.heap.size, 2, none⟩ = some (.int .i64 0) := (blk_cell hx7 2).trans rfl
        have g0 := blk_frozen hx7 0
        have g1 := blk_frozen hx7 1
        have g2 := blk_frozen hx7 2
        obtain ⟨hx8, hb8⟩ := has_put (v0 := .string b0) (v1 := .slice A5 (S.fl f).bytes.length c5) (v2 := .int .i64 i2) (show Below w7.heap.size w7 W7 by rw [← hW7]; exact below_alloc (Below.refl _ _) _) rfl hx7
        obtain ⟨W8, hW8⟩ : ∃ W8, ((W7.setCell ⟨w7.heap.size, 0, none⟩ (.string b0)).setCell ⟨w7.heap.size, 1, none⟩ (.slice A5 (S.fl f).bytes.length c5)).setCell ⟨w7.heap.size, 2, none⟩ (.int .i64 i2) = W8 := ⟨_, rfl⟩
        rw [hW8] at hx8 hb8
        have x1 : W8.cell? ⟨w7.heap.size, 1, none⟩ = some (.slice A5 (S.fl f).bytes.length c5) := (blk_cell hx8 1).trans rfl
        have HX8 := Aside0.mk hx8
        have hb7' : Below w6.heap.size w6 W8 := hb7.trans (hb8.mono hb7.size)
        have HU8 := Aside0.mk (HU7.out.below hb7')
        have HR8 := Aside0.mk (Kd.R_below HR7.out hb7')
        clear hb7 hb7' HU7 HR7 hb8 hx7 hx8
        have q6 : IntKind.i64.wrap (left - (k : Int)) = left - (k : Int) := IntWalk.i64_in _ ⟨by omega, by omega⟩
        have q7 : IntKind.i64.wrap (left + ((S.fl f).bytes.length : Int)) = left + ((S.fl f).bytes.length : Int) := IntWalk.i64_in _ ⟨by omega, by omega⟩
        clear q1 q4
        have HU8d := Aside0.mk (HU8.out.below (below_drew1 (Below.refl _ _)))
        have HX8d := Aside0.mk (show W8.drew.heap[w7.heap.size]? = some (.cells #[.string b0, .slice A5 (S.fl f).bytes.length c5, .int .i64 i2] TF (0, 0)) from HX8.out)
        have Hs3 := Aside0.mk (show ∀ S3 w10, Clean w1 g cap (xs.length + 1 + 1) S3 w10 → S3.seen = S2.seen.del (key s) → S3.fl = S2.fl → S3.cap - (sumD S3.fl S3.seen : Nat) = left + ((S.fl f).bytes.length : Int) from fun S3 w10 hu10 he10 hf10 => by
          have h1 := Hs2.out
          have h2 := Hdel.out
          have h3 := hu10.up.cap
          have h4 := HU8.out.up.cap
          rw [he10, hf10]
          omega)
        have hM2 : xs.length + 1 + 1 ≤ 2000000000000 := by omega
        have hs2 : s.size ≤ 9223372036854775807 := by omega
        go_wp2
        go_region_held3 (fun w' => w'.cell? ⟨w7.heap.size, 1, none⟩ = some (.slice A5 (S.fl f).bytes.length c5)) (first | exact x4 | exact x3 | exact x2 | exact x1 | go_keep) (first
          | (go_at_call 23; refine (left_any w1 g S3 _ w10 HU10.out.up.fs HU10.out.up.sm HU10.out.up.iv.ok).mono ?_; rintro e w11 ⟨rfl, hb11⟩; rw [Hs4.out]; have x4 : w11.cell? ⟨w7.heap.size, 1, none⟩ = some (.slice A5 (S.fl f).bytes.length c5) := (blk_cell ((hb11.block _ (blk_lt HX10.out)).trans HX10.out) 1).trans rfl; have HB11 := Aside0.mk (HB1.out.trans ((HU10.out.up.fs.be.trans (hb11.mono HU10.out.up.fs.be.size)).mono HB1.out.size)); clear hb11)
          | (go_at_call 24; refine (remove_yes HU9.out hM2 Hlk2.out hs2).mono ?_; rintro e w10 ⟨rfl, hk10, S3, hu10, he10, hf10⟩; have Hs4 := Aside0.mk (Hs3.out S3 w10 hu10 he10 hf10); have HU10 := Aside0.mk hu10; have hx10 := hk10.2 _ _ _ _ HX9.out (by decide) (by decide) (by decide); have HX10 := Aside0.mk hx10; have x3 : w10.cell? ⟨w7.heap.size, 1, none⟩ = some (.slice A5 (S.fl f).bytes.length c5) := (blk_cell hx10 1).trans rfl; clear hk10 hu10 he10 hf10 hx10)
          | (go_at_call 23; refine (left_any w1 g S2 _ W8.drew HU8d.out.up.fs HU8d.out.up.sm HU8d.out.up.iv.ok).mono ?_; rintro e w9 ⟨rfl, hb9⟩; rw [Hs2.out]; have HU9 := Aside0.mk (HU8d.out.below hb9); have hx9 := (hb9.block _ (blk_lt HX8d.out)).trans HX8d.out; have HX9 := Aside0.mk hx9; have x2 : w9.cell? ⟨w7.heap.size, 1, none⟩ = some (.slice A5 (S.fl f).bytes.length c5) := (blk_cell hx9 1).trans rfl; clear hb9 hx9))
        go_wp2
        go_ret
        exact ⟨rfl, HB11.out⟩
theorem full_walk (cap : Int) (A : Option Addr) (c : Nat) (xs : List SOp) (s : ByteArray) (n : Int) (W : World) (h0 : (Lit.int .i64 cap).wf = true) (hC : Kd.C kOp W A xs.length xs) (hc : xs.length ≤ c) (hx : xs.length * 136 ≤ 140737488351232 ∧ ∀ e ∈ xs, okO e) (hs : s.size ≤ 140737488351232) (hn : (Lit.int .i64 n).wf = true) :
    Calls Try.prog 6 #[.int .i64 cap, .slice A xs.length c, .string s, .int .i64 n] W fun e w' => e = .returned (.bool true) ∧ Below W.heap.size W w' :=
  full_any cap A c xs s n W hC hc (by omega) (opOk_of hx.2) hs
end Go.Proofs.Ytamhecmopnekjaa.Vf
