/- vfs: what each call leaves where there are no faults: all that the laws ask. -/
import Derived.Test.YtamhecmopnekjaaVfHs
namespace Go.Proofs.Ytamhecmopnekjaa.Vf
open Go Go.RowKit Go.Maps Go.Proofs.Ytamhecmopnekjaa Go.Proofs.YtamhecmopnekjaaW.PrintWords
set_option linter.unusedVariables false
set_option linter.unusedSimpArgs false

/-- A file system that stands and has no faults. -/
structure Cln (w0 : World) (g : Nat) (cap : Int) (N : Nat) (S : St) (w : World) : Prop where
  up : Up w0 g cap N S w
  fl : S.flts = []
theorem Cln.below {w0 w w1 : World} {g N : Nat} {cap : Int} {S : St} (h : Cln w0 g cap N S w) (hb : Below w.heap.size w w1) : Cln w0 g cap N S w1 := ⟨h.up.below hb, h.fl⟩
theorem sum_le (fl : Nat → VFile) {fb : List Nat} (hF : FOk fb fl) {D : Dt} (hT : Tidy D) (hN : Named D fb) (hS : StrKeys D) : sumD fl D ≤ Maps.size D * 1048576 := by
  obtain ⟨es, rfl, hp⟩ := hT
  obtain ⟨es', he', hk⟩ := hS
  injection he' with he'
  subst he'
  have hl : ∀ p ∈ es, lenD fl p.2 ≤ 1048576 := fun p hpm => by
    obtain ⟨s, hs⟩ := hk p hpm
    have hh : Maps.has (.map es) (key s) = true := by
      rw [Maps.has_eq, List.any_eq_true]
      exact ⟨p, hpm, by rw [hs]; exact WideAt.sameKey_self (key_lit s)⟩
    obtain ⟨b, hb, hl, ha⟩ := look_some hN hh
    have hv : p.2 = fD b := by
      rw [← ha .nil]
      exact (WideAt.atKey_mem .nil (key_lit s) hp (by rw [← hs]; exact hpm)).symm
    rw [hv, lenD_fD]
    exact (hF b hb).1
  show sumOf fl es ≤ es.length * 1048576
  clear hp hk hN
  induction es with
  | nil => exact Nat.le_refl _
  | cons p r ih =>
    have h1 := hl p List.mem_cons_self
    have h2 := ih (fun q hq => hl q (List.mem_cons_of_mem _ hq))
    rw [sumOf_cons, List.length_cons]
    omega
section
variable {w0 w : World} {g N : Nat} {cap : Int} {S : St}
theorem create_c {s : ByteArray} (h : Cln w0 g cap N S w) (hM : N + 1 ≤ 2000000000000) (hr : createE S s = 0) (hlk : look S.seen s = none) (hs : s.size ≤ 9223372036854775807) :
    Calls Try.prog 11 #[.pointer (some ⟨g, 0, none⟩), .string s] w fun e w' => e = .returned (.int .i64 0) ∧ KeptT w w' ∧ ∃ b S', b ∉ S.fb ∧ Cln w0 g cap (N + 1) S' w' ∧ S'.seen = S.seen.put (key s) (fD b) ∧ S'.lasts = S.lasts ∧ S'.pend = S.pend ++ [createT s b] ∧ S'.fl = updF S.fl b ⟨[], 0⟩ ∧ S'.fb = b :: S.fb := by
  have hT := h.up.fs.se.tidy keyed9
  refine (create_any w0 g S N s w h.up.fs h.up.sm hs).mono ?_
  rintro e w' (⟨hne, _⟩ | ⟨_, b, hb, ho⟩)
  · exact absurd hr hne
  · obtain ⟨he, hk, o', nth', pv', hf⟩ := ho.clean h.fl
    have hon : onD (createT s b) S.seen = S.seen.put (key s) (fD b) := by unfold onD; rw [if_pos (show (createT s b).op = 1 from rfl)]; rfl
    exact ⟨he, hk, b, _, hb, ⟨⟨hf, inv_create S o' nth' pv' s b h.up.iv hb h.up.fs.sn h.up.fs.se.isMap hT (strKeys_of h.up.fs.se) hlk, ⟨by have h1 := size_on (createT s b) hT; have h2 := h.up.sm.se; show Maps.size (onD (createT s b) S.seen) ≤ _; omega, by have h2 := h.up.sm.la; show Maps.size S.lasts + (S.pend ++ [createT s b]).length ≤ _; rw [List.length_append, List.length_singleton]; omega, hM⟩, h.up.cap⟩, h.fl⟩, hon, rfl, rfl, rfl, rfl⟩
theorem append_c {s : ByteArray} {f : Nat} {A : Option Addr} {c : Nat} {M : List UInt8} (h : Cln w0 g cap N S w) (hM : N + 1 ≤ 2000000000000) (hlk : look S.seen s = some f) (hr : appendE S s M.length = 0) (hs : s.size ≤ 9223372036854775807) (HR : ReadsInt w .u8 A M.length (nb M)) (hnc : M.length ≤ c) (hl : M.length ≤ 140737488351232) :
    Calls Try.prog 12 #[.pointer (some ⟨g, 0, none⟩), .string s, .slice A M.length c] w fun e w' => e = .returned (.int .i64 0) ∧ KeptT w w' ∧ ∃ S', Cln w0 g cap (N + 1) S' w' ∧ S'.seen = S.seen ∧ S'.lasts = S.lasts ∧ S'.pend = S.pend ∧ S'.fl = updF S.fl f (appX (S.fl f) M) ∧ S'.fb = S.fb := by
  refine (append_any w0 g S N s A c M w h.up.fs h.up.sm h.up.iv.ok hs HR hnc hl).mono ?_
  rintro e w' (⟨hne, _⟩ | ⟨hz, f', hl', ho⟩)
  · exact absurd hr hne
  · rw [hlk] at hl'
    obtain rfl : f = f' := by injection hl'
    obtain ⟨he, hk, o', nth', hf⟩ := ho.clean h.fl
    exact ⟨he, hk, _, ⟨⟨hf, inv_append S o' nth' s f M h.up.iv (h.up.fs.se.tidy keyed9) h.up.fs.sn (strKeys_of h.up.fs.se) hlk hz, small_same o' nth' _ h.up.sm hM, h.up.cap⟩, h.fl⟩, rfl, rfl, rfl, rfl, rfl⟩
theorem sync_c {s : ByteArray} {f : Nat} (h : Cln w0 g cap N S w) (hM : N + 1 ≤ 2000000000000) (hlk : look S.seen s = some f) (hs : s.size ≤ 9223372036854775807) :
    Calls Try.prog 13 #[.pointer (some ⟨g, 0, none⟩), .string s] w fun e w' => e = .returned (.int .i64 0) ∧ KeptT w w' ∧ ∃ S', Cln w0 g cap (N + 1) S' w' ∧ S'.seen = S.seen ∧ S'.lasts = S.lasts ∧ S'.pend = S.pend ∧ S'.fl = updF S.fl f (syncX (S.fl f)) ∧ S'.fb = S.fb := by
  refine (sync_any w0 g S s w h.up.fs h.up.iv.ok hs).mono ?_
  rintro e w' (⟨hne, _⟩ | ⟨_, f', hl', ho⟩)
  · unfold syncE at hne; rw [hlk, if_pos (show (some f).isSome = true from rfl)] at hne; exact absurd hne (by decide)
  · rw [hlk] at hl'
    obtain rfl : f = f' := by injection hl'
    obtain ⟨he, hk, o', nth', hf⟩ := ho.clean h.fl
    exact ⟨he, hk, _, ⟨⟨hf, inv_sync S o' nth' s f h.up.iv (h.up.fs.se.tidy keyed9) h.up.fs.sn (strKeys_of h.up.fs.se) hlk, small_same o' nth' _ h.up.sm hM, h.up.cap⟩, h.fl⟩, rfl, rfl, rfl, rfl, rfl⟩
theorem dir_c (h : Cln w0 g cap N S w) (hM : N + 1 ≤ 2000000000000) :
    Calls Try.prog 14 #[.pointer (some ⟨g, 0, none⟩)] w fun e w' => e = .returned (.int .i64 0) ∧ KeptT w w' ∧ ∃ S', Cln w0 g cap (N + 1) S' w' ∧ S'.seen = S.seen ∧ S'.lasts = S.seen ∧ S'.pend = [] ∧ S'.fl = S.fl ∧ S'.fb = S.fb := by
  refine (syncdir_any w0 g S w h.up.fs).mono ?_
  rintro e w' ho
  obtain ⟨he, hk, b, o', nth', hf⟩ := ho.clean h.fl
  exact ⟨he, hk, _, ⟨⟨hf, inv_dir S o' nth' b h.up.iv, small_dir o' nth' b h.up.sm hM, h.up.cap⟩, h.fl⟩, rfl, rfl, rfl, rfl, rfl⟩
theorem rename_c {s d : ByteArray} (h : Cln w0 g cap N S w) (hM : N + 1 ≤ 2000000000000) (hr : renameE S s d = 0) (hs : s.size ≤ 9223372036854775807) (hd : d.size ≤ 9223372036854775807) :
    Calls Try.prog 15 #[.pointer (some ⟨g, 0, none⟩), .string s, .string d] w fun e w' => e = .returned (.int .i64 0) ∧ KeptT w w' ∧ ∃ S', Cln w0 g cap (N + 1) S' w' ∧ S'.seen = onD (renameT s d) S.seen ∧ S'.lasts = S.lasts ∧ S'.pend = S.pend ++ [renameT s d] ∧ S'.fl = S.fl ∧ S'.fb = S.fb := by
  refine (rename_any w0 g S N s d w h.up.fs h.up.sm hs hd).mono ?_
  rintro e w' (⟨hne, _⟩ | ⟨_, ho⟩)
  · exact absurd hr hne
  · obtain ⟨he, hk, o', nth', pv', hf⟩ := ho.clean h.fl
    exact ⟨he, hk, _, ⟨⟨hf, inv_rename S o' nth' pv' s d h.up.iv h.up.fs.se.isMap (h.up.fs.se.tidy keyed9) h.up.fs.sn, small_turn _ _ _ _ h.up hM, h.up.cap⟩, h.fl⟩, rfl, rfl, rfl, rfl, rfl⟩
end
end Go.Proofs.Ytamhecmopnekjaa.Vf
