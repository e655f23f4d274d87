/- vfs: the invariant of a file system that is played: plain laws over the state. -/
import Derived.Test.YtamhecmopnekjaaVfR
import Derived.Test.YtamhecmopnekjaaTy
namespace Go.Proofs.Ytamhecmopnekjaa.Vf
open Go Go.RowKit Go.Maps Go.Proofs.Ytamhecmopnekjaa Go.Proofs.YtamhecmopnekjaaW.PrintWords
set_option linter.unusedVariables false
set_option linter.unusedSimpArgs false

theorem key_inj {s t : ByteArray} (h : key s = key t) : s = t := by
  unfold key at h
  injection h with h
  exact row_data_inj h
theorem look_put {D : Dt} (hm : IsMap D) (s t : ByteArray) (f : Nat) : look (D.put (key s) (fD f)) t = if t = s then some f else look D t := by
  by_cases e : t = s
  · subst e
    rw [if_pos rfl]
    exact look_fD (Maps.atKey_put_same hm (key_lit t) _ _)
  · rw [if_neg e]
    unfold look
    rw [Maps.atKey_put_other (fun h => e (key_inj h))]
theorem look_del {D : Dt} (s t : ByteArray) : look (D.del (key s)) t = if t = s then none else look D t := by
  by_cases e : t = s
  · subst e
    rw [if_pos rfl]
    unfold look
    rw [Maps.atKey_del_same]
  · rw [if_neg e]
    unfold look
    rw [Maps.atKey_del_other (fun h => e (key_inj h))]
def Inj (D : Dt) : Prop := ∀ s t f, look D s = some f → look D t = some f → s = t
/-! ### Sums -/
theorem sum_insert (fl : Nat → VFile) (x : Lit × Dt) : ∀ es : List (Lit × Dt), sumOf fl (DataW.insert x es) = lenD fl x.2 + sumOf fl es
  | [] => by simp [DataW.insert, sumOf]
  | y :: r => by
    unfold DataW.insert
    split
    · rw [sumOf_cons]
    · rw [sumOf_cons, sum_insert fl x r, sumOf_cons]; omega
theorem sum_put (fl : Nat → VFile) {D : Dt} (hm : IsMap D) (k : Lit) (d : Dt) : sumD fl (D.put k d) = lenD fl d + sumD fl (D.del k) := by
  obtain ⟨es, rfl⟩ := hm
  exact sum_insert fl (k, d) _
theorem sum_filter_le (fl : Nat → VFile) (p : Lit × Dt → Bool) : ∀ es : List (Lit × Dt), sumOf fl (es.filter p) ≤ sumOf fl es
  | [] => Nat.le_refl _
  | y :: r => by
    rw [List.filter_cons, sumOf_cons]
    have := sum_filter_le fl p r
    split
    · rw [sumOf_cons]; omega
    · omega
theorem sum_del_le (fl : Nat → VFile) {D : Dt} (hm : IsMap D) (k : Lit) : sumD fl (D.del k) ≤ sumD fl D := by
  obtain ⟨es, rfl⟩ := hm
  exact sum_filter_le fl _ es
theorem sum_del_none (fl : Nat → VFile) {D : Dt} (hm : IsMap D) (k : Lit) (h : Maps.has D k = false) : sumD fl (D.del k) = sumD fl D := by
  obtain ⟨es, rfl⟩ := hm
  show sumOf fl (es.filter fun p => !p.1.sameKey k) = sumOf fl es
  congr 1
  apply List.filter_eq_self.2
  intro p hp
  rw [Maps.has_eq, List.any_eq_false] at h
  have := h p hp
  simp only [Bool.not_eq_true] at this
  rw [this]; rfl
theorem sum_del_some (fl : Nat → VFile) (k : Lit) (d : Dt) (hk : WideAt.IsKeyLit k) : ∀ es : List (Lit × Dt), es.Pairwise (fun p q => p.1 ≠ q.1) → (k, d) ∈ es → sumOf fl es = lenD fl d + sumOf fl (es.filter fun p => !p.1.sameKey k)
  | [], _, hm => by cases hm
  | p :: r, hp, hm => by
    obtain ⟨h1, h2⟩ := List.pairwise_cons.1 hp
    rw [sumOf_cons, List.filter_cons]
    rcases List.mem_cons.1 hm with rfl | hm
    · rw [show ((k, d) : Lit × Dt).1.sameKey k = true from WideAt.sameKey_self hk]
      have hr : (r.filter fun p => !p.1.sameKey k) = r := by
        apply List.filter_eq_self.2
        intro q hq
        cases hs : q.1.sameKey k
        · rfl
        · exact absurd (WideAt.sameKey_eq hs).symm (h1 q hq)
      simp [hr]
    · have hs : p.1.sameKey k = false := by
        cases hs : p.1.sameKey k
        · rfl
        · exact absurd (WideAt.sameKey_eq hs) (h1 _ hm)
      rw [hs]
      simp only [Bool.not_false, if_true]
      rw [sumOf_cons, sum_del_some fl k d hk r h2 hm]
      omega
theorem sum_del (fl : Nat → VFile) {D : Dt} {fb : List Nat} (hT : Tidy D) (hN : Named D fb) {s : ByteArray} {f : Nat} (h : look D s = some f) : sumD fl D = (fl f).bytes.length + sumD fl (D.del (key s)) := by
  obtain ⟨_, hh, ha⟩ := look_mem hN h
  obtain ⟨es, rfl, hp⟩ := hT
  have hm := mem_of_at hh ha
  rw [← lenD_fD fl f]
  exact sum_del_some fl (key s) (fD f) (key_lit s) es hp hm
/-- The keys of a directory are texts. -/
def StrKeys (D : Dt) : Prop := ∃ es, D = .map es ∧ ∀ p ∈ es, ∃ s : ByteArray, p.1 = key s
theorem strKeys_of {w : World} {b n : Nat} {D : Dt} (how : w.ownsMap Try.prog 9 rdF b n D) : StrKeys D := by
  obtain ⟨es, rfl, hk⟩ := how.keysOf
  refine ⟨es, rfl, fun p hp => ?_⟩
  obtain ⟨v, hv⟩ := hk p hp
  obtain ⟨x, _, hx, _⟩ := Maps.keyOf_str Try.underlying9 hv
  exact ⟨⟨x.toArray⟩, hx⟩
theorem sum_upd_none (fl : Nat → VFile) {D : Dt} {fb : List Nat} (hT : Tidy D) (hN : Named D fb) (hS : StrKeys D) {f : Nat} (x : VFile) (h : ∀ s, look D s ≠ some f) : sumD (updF fl f x) D = sumD fl D := by
  obtain ⟨es, he, hp⟩ := hT
  obtain ⟨es', he', hk⟩ := hS
  rw [he] at he'
  injection he' with he'
  subst he'
  subst he
  show sumOf _ es = sumOf _ es
  unfold sumOf
  congr 1
  apply List.map_congr_left
  intro p hpm
  obtain ⟨s, hs⟩ := hk p hpm
  have hh : Maps.has (.map es) (key s) = true := by
    rw [Maps.has_eq, List.any_eq_true]
    exact ⟨p, hpm, by rw [hs]; exact WideAt.sameKey_self (key_lit s)⟩
  obtain ⟨b, hb, hl, ha⟩ := look_some hN hh
  have hv : p.2 = fD b := by
    rw [← ha .nil]
    exact (WideAt.atKey_mem .nil (key_lit s) hp (by rw [← hs]; exact hpm)).symm
  have hne : b ≠ f := fun e => h s (by rw [hl, e])
  rw [hv, lenD_fD, lenD_fD]
  unfold updF
  rw [if_neg hne]
theorem strKeys_del {D : Dt} (hS : StrKeys D) (k : Lit) : StrKeys (D.del k) := by
  obtain ⟨es, rfl, hk⟩ := hS
  exact ⟨_, rfl, fun p hp => hk p (List.mem_filter.1 hp).1⟩
theorem sum_upd (fl : Nat → VFile) {D : Dt} {fb : List Nat} (hT : Tidy D) (hN : Named D fb) (hS : StrKeys D) (hI : Inj D) {s : ByteArray} {f : Nat} (x : VFile) (h : look D s = some f) : sumD (updF fl f x) D + (fl f).bytes.length = sumD fl D + x.bytes.length := by
  have h1 := sum_del (updF fl f x) hT hN h
  have h2 := sum_del fl hT hN h
  rw [updF_same] at h1
  have h3 := sum_upd_none fl (hT.del (key s)) (hN.del (s := s)) (strKeys_del hS (key s)) x (f := f) (fun t ht => by
    rw [look_del] at ht
    split at ht
    · cases ht
    · rename_i e
      exact e (hI t s f ht h))
  omega
/-! ### The invariant -/
structure Inv (S : St) : Prop where
  ok : FilesOk S
  pl : S.seen = playD S.pend S.lasts
  inj : Inj S.seen
  room : (sumD S.fl S.seen : Int) ≤ S.cap
theorem inv_st0 (cap : Int) (h : Nat) (h0 : 0 ≤ cap) (h1 : cap ≤ 16777216) : Inv (st0 cap h) := ⟨⟨⟨h0, h1⟩, fun b hb => by cases hb⟩, rfl, fun s t f hs _ => (by cases hs), h0⟩
theorem inv_on (S : St) (o' : Nat → Int) (nth' : Dt) (h : Inv S) : Inv { S with o := o', nth := nth' } := ⟨⟨h.ok.cap, h.ok.fs⟩, h.pl, h.inj, h.room⟩
theorem inj_put {D : Dt} (hm : IsMap D) (hI : Inj D) (s : ByteArray) (f : Nat) (hf : ∀ t, t ≠ s → look D t ≠ some f) : Inj (D.put (key s) (fD f)) := fun a b x ha hb => by
  rw [look_put hm] at ha hb
  split at ha
  · rename_i e1
    split at hb
    · rename_i e2; rw [e1, e2]
    · rename_i e2
      injection ha with ha
      subst ha
      exact absurd hb (hf b e2)
  · rename_i e1
    split at hb
    · rename_i e2
      injection hb with hb
      subst hb
      exact absurd ha (hf a e1)
    · exact hI a b x ha hb
theorem inj_del {D : Dt} (hI : Inj D) (s : ByteArray) : Inj (D.del (key s)) := fun a b x ha hb => by
  rw [look_del] at ha hb
  split at ha
  · cases ha
  · split at hb
    · cases hb
    · exact hI a b x ha hb
theorem inv_create (S : St) (o' : Nat → Int) (nth' : Dt) (pv' : Value) (s : ByteArray) (b : Nat) (h : Inv S) (hb : b ∉ S.fb) (hN : Named S.seen S.fb) (hm : IsMap S.seen) (hT : Tidy S.seen) (hS : StrKeys S.seen) (hl : look S.seen s = none) :
    Inv { S.newF b with o := o', nth := nth', pv := pv', pend := S.pend ++ [createT s b], seen := onD (createT s b) S.seen } := by
  have hon : onD (createT s b) S.seen = S.seen.put (key s) (fD b) := by unfold onD; rw [if_pos (show (createT s b).op = 1 from rfl)]; rfl
  have hfb : ∀ t, look S.seen t ≠ some b := fun t ht => hb (look_mem hN ht).1
  refine ⟨⟨h.ok.cap, fun k hk => ?_⟩, ?_, ?_, ?_⟩
  · show (updF S.fl b ⟨[], 0⟩ k).bytes.length ≤ 1048576 ∧ (updF S.fl b ⟨[], 0⟩ k).synced ≤ (updF S.fl b ⟨[], 0⟩ k).bytes.length
    unfold updF
    split
    · exact ⟨Nat.zero_le _, Nat.le_refl _⟩
    · rcases List.mem_cons.1 hk with rfl | hk
      · contradiction
      · exact h.ok.fs k hk
  · show onD (createT s b) S.seen = playD (S.pend ++ [createT s b]) S.lasts
    rw [playD_snoc, ← h.pl]
  · show Inj (onD (createT s b) S.seen)
    rw [hon]
    exact inj_put hm h.inj s b (fun t _ => hfb t)
  · show ((sumD (updF S.fl b ⟨[], 0⟩) (onD (createT s b) S.seen) : Nat) : Int) ≤ S.cap
    rw [hon, sum_put _ hm, lenD_fD, updF_same, sum_del_none _ hm _ (by rw [look_has hN, hl]; rfl), sum_upd_none S.fl hT hN hS _ hfb]
    have := h.room
    simp only [List.length_nil]
    omega
theorem inv_remove (S : St) (o' : Nat → Int) (nth' : Dt) (pv' : Value) (s : ByteArray) (h : Inv S) (hm : IsMap S.seen) :
    Inv { S with o := o', nth := nth', pv := pv', pend := S.pend ++ [removeT s], seen := onD (removeT s) S.seen } := by
  have hon : onD (removeT s) S.seen = S.seen.del (key s) := by unfold onD; rw [if_neg (show ¬ (removeT s).op = 1 by show ¬ ((5 : Int) = 1); decide), if_pos (show (removeT s).op = 5 from rfl)]; rfl
  refine ⟨⟨h.ok.cap, h.ok.fs⟩, ?_, ?_, ?_⟩
  · show onD (removeT s) S.seen = playD (S.pend ++ [removeT s]) S.lasts
    rw [playD_snoc, ← h.pl]
  · show Inj (onD (removeT s) S.seen)
    rw [hon]
    exact inj_del h.inj s
  · show ((sumD S.fl (onD (removeT s) S.seen) : Nat) : Int) ≤ S.cap
    rw [hon]
    have h1 := sum_del_le S.fl hm (key s)
    have h2 := h.room
    omega
theorem inv_rename (S : St) (o' : Nat → Int) (nth' : Dt) (pv' : Value) (s d : ByteArray) (h : Inv S) (hm : IsMap S.seen) (hT : Tidy S.seen) (hN : Named S.seen S.fb) :
    Inv { S with o := o', nth := nth', pv := pv', pend := S.pend ++ [renameT s d], seen := onD (renameT s d) S.seen } := by
  have hon : onD (renameT s d) S.seen = (match look S.seen s with | some f => if s = d then S.seen else (S.seen.del (key s)).put (key d) (fD f) | none => S.seen) := by
    unfold onD; rw [if_neg (show ¬ (renameT s d).op = 1 by show ¬ ((4 : Int) = 1); decide), if_neg (show ¬ (renameT s d).op = 5 by show ¬ ((4 : Int) = 5); decide), if_pos (show (renameT s d).op = 4 from rfl)]; rfl
  have key2 : Inj (onD (renameT s d) S.seen) ∧ sumD S.fl (onD (renameT s d) S.seen) ≤ sumD S.fl S.seen := by
    rw [hon]
    cases hl : look S.seen s with
    | none => exact ⟨h.inj, Nat.le_refl _⟩
    | some f =>
      by_cases e : s = d
      · simp only [if_pos e]; exact ⟨h.inj, Nat.le_refl _⟩
      · simp only [if_neg e]
        refine ⟨inj_put (isMap_del hm) (inj_del h.inj s) d f (fun t _ ht => ?_), ?_⟩
        · rw [look_del] at ht
          split at ht
          · cases ht
          · rename_i e2
            exact e2 (h.inj t s f ht hl)
        · rw [sum_put _ (isMap_del hm), lenD_fD]
          have h1 := sum_del_le S.fl (isMap_del hm (k := key s)) (key d)
          have h2 := sum_del S.fl hT hN hl
          omega
  refine ⟨⟨h.ok.cap, h.ok.fs⟩, ?_, key2.1, ?_⟩
  · show onD (renameT s d) S.seen = playD (S.pend ++ [renameT s d]) S.lasts
    rw [playD_snoc, ← h.pl]
  · show ((sumD S.fl (onD (renameT s d) S.seen) : Nat) : Int) ≤ S.cap
    have h1 := key2.2
    have h2 := h.room
    omega
theorem inv_sync (S : St) (o' : Nat → Int) (nth' : Dt) (s : ByteArray) (f : Nat) (h : Inv S) (hT : Tidy S.seen) (hN : Named S.seen S.fb) (hS : StrKeys S.seen) (hl : look S.seen s = some f) :
    Inv { S with o := o', nth := nth', fl := updF S.fl f (syncX (S.fl f)) } := by
  have hf := (look_mem hN hl).1
  refine ⟨⟨h.ok.cap, fok_upd h.ok.fs ⟨(h.ok.fs f hf).1, Nat.le_refl _⟩⟩, h.pl, h.inj, ?_⟩
  show ((sumD (updF S.fl f (syncX (S.fl f))) S.seen : Nat) : Int) ≤ S.cap
  have h1 := sum_upd S.fl hT hN hS h.inj (syncX (S.fl f)) hl
  have h2 := h.room
  have h3 : (syncX (S.fl f)).bytes.length = (S.fl f).bytes.length := rfl
  omega
theorem appendE_zero {S : St} {s : ByteArray} {f n : Nat} (hl : look S.seen s = some f) (h : appendE S s n = 0) : (S.fl f).bytes.length + n ≤ 1048576 ∧ (n : Int) ≤ S.cap - (sumD S.fl S.seen : Nat) := by
  unfold appendE at h
  rw [hl] at h
  simp only at h
  split at h
  · cases h
  · split at h
    · cases h
    · omega
theorem inv_append (S : St) (o' : Nat → Int) (nth' : Dt) (s : ByteArray) (f : Nat) (M : List UInt8) (h : Inv S) (hT : Tidy S.seen) (hN : Named S.seen S.fb) (hS : StrKeys S.seen) (hl : look S.seen s = some f) (he : appendE S s M.length = 0) :
    Inv { S with o := o', nth := nth', fl := updF S.fl f (appX (S.fl f) M) } := by
  have hf := (look_mem hN hl).1
  obtain ⟨h4, h5⟩ := appendE_zero hl he
  have h3 : (appX (S.fl f) M).bytes.length = (S.fl f).bytes.length + M.length := List.length_append
  refine ⟨⟨h.ok.cap, fok_upd h.ok.fs ⟨by omega, by have := (h.ok.fs f hf).2; show (S.fl f).synced ≤ _; omega⟩⟩, h.pl, h.inj, ?_⟩
  show ((sumD (updF S.fl f (appX (S.fl f) M)) S.seen : Nat) : Int) ≤ S.cap
  have h1 := sum_upd S.fl hT hN hS h.inj (appX (S.fl f) M) hl
  have h2 := h.room
  omega
theorem inv_dir (S : St) (o' : Nat → Int) (nth' : Dt) (b : Nat) (h : Inv S) : Inv { dirS S b with o := o', nth := nth' } := ⟨⟨h.ok.cap, h.ok.fs⟩, rfl, h.inj, h.room⟩
theorem inv_fail (S : St) (fv : Value) (xs : List Fault) (b : Nat) (h : Inv S) : Inv (failS S fv xs b) := ⟨⟨h.ok.cap, h.ok.fs⟩, h.pl, h.inj, h.room⟩
end Go.Proofs.Ytamhecmopnekjaa.Vf
/- vfs: the operations under the invariant; plays. -/
namespace Go.Proofs.Ytamhecmopnekjaa.Vf
open Go Go.RowKit Go.Maps Go.Proofs.Ytamhecmopnekjaa Go.Proofs.YtamhecmopnekjaaW.PrintWords
set_option linter.unusedVariables false
set_option linter.unusedSimpArgs false

/-- A file system that stands. -/
structure Up (w0 : World) (g : Nat) (cap : Int) (N : Nat) (S : St) (w : World) : Prop where
  fs : FsB w0 g S w
  iv : Inv S
  sm : Small S N
  cap : S.cap = cap
theorem Up.below {w0 w w1 : World} {g N : Nat} {cap : Int} {S : St} (h : Up w0 g cap N S w) (hb : Below w.heap.size w w1) : Up w0 g cap N S w1 := ⟨h.fs.below hb, h.iv, h.sm, h.cap⟩
/-- What an operation leaves: a file system that stands. -/
def Stands (w0 : World) (g : Nat) (cap : Int) (N : Nat) (w : World) (e : Ending) (w' : World) : Prop := (∃ v : Int, e = .returned (.int .i64 v)) ∧ KeptT w w' ∧ ∃ S', Up w0 g cap N S' w'
theorem Small.mono {S : St} {N M : Nat} (h : Small S N) (hm : N ≤ M) (hM : M ≤ 2000000000000) : Small S M := ⟨Nat.le_trans h.se hm, Nat.le_trans h.la hm, hM⟩
theorem Up.more {w0 w : World} {g N M : Nat} {cap : Int} {S : St} (h : Up w0 g cap N S w) (hm : N ≤ M) (hM : M ≤ 2000000000000) : Up w0 g cap M S w := ⟨h.fs, h.iv, h.sm.mono hm hM, h.cap⟩
section
variable {w0 w : World} {g N : Nat} {cap : Int} {S : St}
theorem inv_newF (S : St) (o' : Nat → Int) (nth' : Dt) (b : Nat) (h : Inv S) (hb : b ∉ S.fb) (hN : Named S.seen S.fb) (hT : Tidy S.seen) (hS : StrKeys S.seen) : Inv { S.newF b with o := o', nth := nth' } := by
  have hfb : ∀ t, look S.seen t ≠ some b := fun t ht => hb (look_mem hN ht).1
  refine ⟨⟨h.ok.cap, fun k hk => ?_⟩, h.pl, h.inj, ?_⟩
  · show (updF S.fl b ⟨[], 0⟩ k).bytes.length ≤ 1048576 ∧ (updF S.fl b ⟨[], 0⟩ k).synced ≤ (updF S.fl b ⟨[], 0⟩ k).bytes.length
    unfold updF
    split
    · exact ⟨Nat.zero_le _, Nat.le_refl _⟩
    · rcases List.mem_cons.1 hk with rfl | hk
      · contradiction
      · exact h.ok.fs k hk
  · show ((sumD (updF S.fl b ⟨[], 0⟩) S.seen : Nat) : Int) ≤ S.cap
    rw [sum_upd_none S.fl hT hN hS _ hfb]
    exact h.room
theorem create_up (s : ByteArray) (h : Up w0 g cap N S w) (hM : N + 1 ≤ 2000000000000) (hs : s.size ≤ 9223372036854775807) :
    Calls Try.prog 11 #[.pointer (some ⟨g, 0, none⟩), .string s] w fun e w' => Stands w0 g cap (N + 1) w e w' := by
  have hT := h.fs.se.tidy keyed9
  have hm := h.fs.se.isMap
  have hS := strKeys_of h.fs.se
  refine (create_any w0 g S N s w h.fs h.sm hs).mono ?_
  rintro e w' (⟨_, he, hf, hk⟩ | ⟨hz, b, hb, ho⟩)
  · exact ⟨⟨_, he⟩, hk, S, ⟨hf, h.iv, h.sm.mono (by omega) hM, h.cap⟩⟩
  · have hl : look S.seen s = none := by
      unfold createE at hz
      split at hz
      · split at hz
        · cases hz
        · rename_i h1
          cases hl : look S.seen s with
          | none => rfl
          | some f => rw [hl] at h1; exact absurd rfl h1
      · cases hz
    have hz1 : ∀ o' nth' pv', Small { S.newF b with o := o', nth := nth', pv := pv', pend := S.pend ++ [createT s b], seen := onD (createT s b) S.seen } (N + 1) := fun o' nth' pv' => ⟨by have h1 := size_on (createT s b) hT; have h2 := h.sm.se; show Maps.size (onD (createT s b) S.seen) ≤ _; omega, by have h2 := h.sm.la; show Maps.size S.lasts + (S.pend ++ [createT s b]).length ≤ _; rw [List.length_append, List.length_singleton]; omega, hM⟩
    have hz2 : ∀ o' nth', Small { S.newF b with o := o', nth := nth' } (N + 1) := fun o' nth' => ⟨by have := h.sm.se; show Maps.size S.seen ≤ _; omega, by have := h.sm.la; show Maps.size S.lasts + S.pend.length ≤ _; omega, hM⟩
    obtain ⟨hk, ⟨he, o', nth', pv', hf⟩ | ⟨he, _, ⟨o', nth', pv', hf⟩ | ⟨o', nth', hf⟩⟩⟩ := ho
    · exact ⟨⟨_, he⟩, hk, _, ⟨hf, inv_create S o' nth' pv' s b h.iv hb h.fs.sn hm hT hS hl, hz1 _ _ _, h.cap⟩⟩
    · exact ⟨⟨_, he⟩, hk, _, ⟨hf, inv_create S o' nth' pv' s b h.iv hb h.fs.sn hm hT hS hl, hz1 _ _ _, h.cap⟩⟩
    · exact ⟨⟨_, he⟩, hk, _, ⟨hf, inv_newF S o' nth' b h.iv hb h.fs.sn hT hS, hz2 _ _, h.cap⟩⟩
theorem small_turn (t : Turn) (o' : Nat → Int) (nth' : Dt) (pv' : Value) (h : Up w0 g cap N S w) (hM : N + 1 ≤ 2000000000000) : Small { S with o := o', nth := nth', pv := pv', pend := S.pend ++ [t], seen := onD t S.seen } (N + 1) :=
  ⟨by have h1 := size_on t (h.fs.se.tidy keyed9); have h2 := h.sm.se; show Maps.size (onD t S.seen) ≤ _; omega, by have h2 := h.sm.la; show Maps.size S.lasts + (S.pend ++ [t]).length ≤ _; rw [List.length_append, List.length_singleton]; omega, hM⟩
theorem small_same (o' : Nat → Int) (nth' : Dt) (fl' : Nat → VFile) (h : Small S N) (hM : N + 1 ≤ 2000000000000) : Small { S with o := o', nth := nth', fl := fl' } (N + 1) := ⟨by have := h.se; show Maps.size S.seen ≤ _; omega, by have := h.la; show Maps.size S.lasts + S.pend.length ≤ _; omega, hM⟩
theorem remove_up (s : ByteArray) (h : Up w0 g cap N S w) (hM : N + 1 ≤ 2000000000000) (hs : s.size ≤ 9223372036854775807) :
    Calls Try.prog 24 #[.pointer (some ⟨g, 0, none⟩), .string s] w fun e w' => Stands w0 g cap (N + 1) w e w' := by
  refine (remove_any w0 g S N s w h.fs h.sm hs).mono ?_
  rintro e w' (⟨_, he, hf, hk⟩ | ⟨_, hk, ho⟩)
  · exact ⟨⟨_, he⟩, hk, S, ⟨hf, h.iv, h.sm.mono (by omega) hM, h.cap⟩⟩
  · rcases ho with ⟨he, o', nth', pv', hf⟩ | ⟨he, _, ⟨o', nth', pv', hf⟩ | ⟨o', nth', hf⟩⟩
    · exact ⟨⟨_, he⟩, hk, _, ⟨hf, inv_remove S o' nth' pv' s h.iv h.fs.se.isMap, small_turn _ _ _ _ h hM, h.cap⟩⟩
    · exact ⟨⟨_, he⟩, hk, _, ⟨hf, inv_remove S o' nth' pv' s h.iv h.fs.se.isMap, small_turn _ _ _ _ h hM, h.cap⟩⟩
    · exact ⟨⟨_, he⟩, hk, _, ⟨hf, inv_on S o' nth' h.iv, small_same o' nth' S.fl h.sm hM, h.cap⟩⟩
theorem rename_up (s d : ByteArray) (h : Up w0 g cap N S w) (hM : N + 1 ≤ 2000000000000) (hs : s.size ≤ 9223372036854775807) (hd : d.size ≤ 9223372036854775807) :
    Calls Try.prog 15 #[.pointer (some ⟨g, 0, none⟩), .string s, .string d] w fun e w' => Stands w0 g cap (N + 1) w e w' := by
  refine (rename_any w0 g S N s d w h.fs h.sm hs hd).mono ?_
  rintro e w' (⟨_, he, hf, hk⟩ | ⟨_, hk, ho⟩)
  · exact ⟨⟨_, he⟩, hk, S, ⟨hf, h.iv, h.sm.mono (by omega) hM, h.cap⟩⟩
  · rcases ho with ⟨he, o', nth', pv', hf⟩ | ⟨he, _, ⟨o', nth', pv', hf⟩ | ⟨o', nth', hf⟩⟩
    · exact ⟨⟨_, he⟩, hk, _, ⟨hf, inv_rename S o' nth' pv' s d h.iv h.fs.se.isMap (h.fs.se.tidy keyed9) h.fs.sn, small_turn _ _ _ _ h hM, h.cap⟩⟩
    · exact ⟨⟨_, he⟩, hk, _, ⟨hf, inv_rename S o' nth' pv' s d h.iv h.fs.se.isMap (h.fs.se.tidy keyed9) h.fs.sn, small_turn _ _ _ _ h hM, h.cap⟩⟩
    · exact ⟨⟨_, he⟩, hk, _, ⟨hf, inv_on S o' nth' h.iv, small_same o' nth' S.fl h.sm hM, h.cap⟩⟩
theorem sync_up (s : ByteArray) (h : Up w0 g cap N S w) (hM : N + 1 ≤ 2000000000000) (hs : s.size ≤ 9223372036854775807) :
    Calls Try.prog 13 #[.pointer (some ⟨g, 0, none⟩), .string s] w fun e w' => Stands w0 g cap (N + 1) w e w' := by
  refine (sync_any w0 g S s w h.fs h.iv.ok hs).mono ?_
  rintro e w' (⟨_, he, hf, hk⟩ | ⟨_, f, hl, hk, ho⟩)
  · exact ⟨⟨_, he⟩, hk, S, ⟨hf, h.iv, h.sm.mono (by omega) hM, h.cap⟩⟩
  · rcases ho with ⟨he, o', nth', hf⟩ | ⟨he, _, ⟨o', nth', hf⟩ | ⟨o', nth', hf⟩⟩
    · exact ⟨⟨_, he⟩, hk, _, ⟨hf, inv_sync S o' nth' s f h.iv (h.fs.se.tidy keyed9) h.fs.sn (strKeys_of h.fs.se) hl, small_same o' nth' _ h.sm hM, h.cap⟩⟩
    · exact ⟨⟨_, he⟩, hk, _, ⟨hf, inv_sync S o' nth' s f h.iv (h.fs.se.tidy keyed9) h.fs.sn (strKeys_of h.fs.se) hl, small_same o' nth' _ h.sm hM, h.cap⟩⟩
    · exact ⟨⟨_, he⟩, hk, _, ⟨hf, inv_on S o' nth' h.iv, small_same o' nth' S.fl h.sm hM, h.cap⟩⟩
theorem append_up (s : ByteArray) (A : Option Addr) (c : Nat) (M : List UInt8) (h : Up w0 g cap N S w) (hM : N + 1 ≤ 2000000000000) (hs : s.size ≤ 9223372036854775807) (HR : ReadsInt w .u8 A M.length (nb M)) (hnc : M.length ≤ c) (hl : M.length ≤ 140737488351232) :
    Calls Try.prog 12 #[.pointer (some ⟨g, 0, none⟩), .string s, .slice A M.length c] w fun e w' => Stands w0 g cap (N + 1) w e w' := by
  refine (append_any w0 g S N s A c M w h.fs h.sm h.iv.ok hs HR hnc hl).mono ?_
  rintro e w' (⟨_, he, hf, hk⟩ | ⟨hz, f, hl, hk, ho⟩)
  · exact ⟨⟨_, he⟩, hk, S, ⟨hf, h.iv, h.sm.mono (by omega) hM, h.cap⟩⟩
  · rcases ho with ⟨he, o', nth', hf⟩ | ⟨he, _, ⟨o', nth', hf⟩ | ⟨o', nth', hf⟩⟩
    · exact ⟨⟨_, he⟩, hk, _, ⟨hf, inv_append S o' nth' s f M h.iv (h.fs.se.tidy keyed9) h.fs.sn (strKeys_of h.fs.se) hl hz, small_same o' nth' _ h.sm hM, h.cap⟩⟩
    · exact ⟨⟨_, he⟩, hk, _, ⟨hf, inv_append S o' nth' s f M h.iv (h.fs.se.tidy keyed9) h.fs.sn (strKeys_of h.fs.se) hl hz, small_same o' nth' _ h.sm hM, h.cap⟩⟩
    · exact ⟨⟨_, he⟩, hk, _, ⟨hf, inv_on S o' nth' h.iv, small_same o' nth' S.fl h.sm hM, h.cap⟩⟩
theorem small_dir (o' : Nat → Int) (nth' : Dt) (b : Nat) (h : Small S N) (hM : N + 1 ≤ 2000000000000) : Small { dirS S b with o := o', nth := nth' } (N + 1) := ⟨by have := h.se; show Maps.size S.seen ≤ _; omega, by have := h.se; show Maps.size S.seen + 0 ≤ _; omega, hM⟩
theorem dir_up (h : Up w0 g cap N S w) (hM : N + 1 ≤ 2000000000000) :
    Calls Try.prog 14 #[.pointer (some ⟨g, 0, none⟩)] w fun e w' => Stands w0 g cap (N + 1) w e w' := by
  refine (syncdir_any w0 g S w h.fs).mono ?_
  rintro e w' ⟨hk, ho⟩
  rcases ho with ⟨he, b, o', nth', hf⟩ | ⟨he, _, ⟨b, o', nth', hf⟩ | ⟨o', nth', hf⟩⟩
  · exact ⟨⟨_, he⟩, hk, _, ⟨hf, inv_dir S o' nth' b h.iv, small_dir o' nth' b h.sm hM, h.cap⟩⟩
  · exact ⟨⟨_, he⟩, hk, _, ⟨hf, inv_dir S o' nth' b h.iv, small_dir o' nth' b h.sm hM, h.cap⟩⟩
  · exact ⟨⟨_, he⟩, hk, _, ⟨hf, inv_on S o' nth' h.iv, small_same o' nth' S.fl h.sm hM, h.cap⟩⟩
theorem fail_up (A : Option Addr) (c : Nat) (xs : List Fault) (h : Up w0 g cap N S w) (hM : N + 1 ≤ 2000000000000) (HR : kFault.C w A xs.length xs) (hnc : xs.length ≤ c) (hwf : ∀ x ∈ xs, (Lit.int .i64 x.op).wf = true ∧ (Lit.int .i64 x.nth).wf = true) :
    Calls Try.prog 21 #[.pointer (some ⟨g, 0, none⟩), .slice A xs.length c] w fun e w' => Stands w0 g cap (N + 1) w e w' := by
  refine (fail_any w0 g S A c xs w h.fs HR hnc hwf).mono ?_
  rintro e w' ⟨hk, ⟨_, he, hf⟩ | ⟨he, fv, b, hf⟩⟩
  · exact ⟨⟨_, he⟩, hk, _, ⟨hf, h.iv, h.sm.mono (by omega) hM, h.cap⟩⟩
  · exact ⟨⟨_, he⟩, hk, _, ⟨hf, inv_fail S fv xs b h.iv, ⟨by have := h.sm.se; show Maps.size S.seen ≤ _; omega, by have := h.sm.la; show Maps.size S.lasts + S.pend.length ≤ _; omega, hM⟩, h.cap⟩⟩
end
end Go.Proofs.Ytamhecmopnekjaa.Vf
