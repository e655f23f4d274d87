/- vfs: what a file system holds (the abstract state), the bundle that ties it to a world, and the small walks: made, nameRight, Pending. -/
import Derived.Test.YtamhecmopnekjaaProg
import Derived.Test.YtamhecmopnekjaaWWords
import Derived.Maps.OwnSet
import Derived.Maps.RangeWalk
import Derived.Maps.Ext
import Derived.Deep.LoopGhost
import Derived.BigRegion
import Derived.BigQuiet
import Derived.RegionTactic
import Derived.Deep.QuietTactic
import Derived.Deep.RegionHeld3
import Derived.IntWalk
import Derived.WalkSpells
import Derived.Test.YtamhecmopnekjaaRowB
import Derived.Lib.Hide
import Derived.OrdersHeld
import Derived.Deep.RegionHeld
import Derived.KernelRfl
namespace Go.Proofs.Ytamhecmopnekjaa.Vf
open Go Go.RowKit Go.Maps Go.Proofs.Ytamhecmopnekjaa Go.Proofs.YtamhecmopnekjaaW.PrintWords
set_option linter.unusedVariables false
set_option linter.unusedSimpArgs false

/-! ### Kinds -/
structure Turn where
  op : Int
  name : ByteArray
  dest : ByteArray
  f : Option Nat
structure Fault where
  op : Int
  nth : Int
  kind : Int
/-- A pointer to a file's block. -/
def ptrV (o : Option Nat) : Value := .pointer (o.map fun b => ⟨b, 0, none⟩)
def kPtr : Kd (Option Nat) := Kd.scalar ptrV (fun _ => rfl)
def kTurn : Kd Turn := Kd.iso (Kd.pair (Kd.int .i64) (Kd.pair Kd.string (Kd.pair Kd.string kPtr))) (fun x => (x.op, x.name, x.dest, x.f))
def kFault : Kd Fault := Kd.iso (Kd.pair (Kd.int .i64) (Kd.pair (Kd.int .i64) (Kd.int .i64))) (fun x => (x.op, x.nth, x.kind))
abbrev TFS : Nat := 73
abbrev TFile : Nat := 78
abbrev TTurn : Nat := 80
abbrev TFault : Nat := 89

/-! ### Maps of names -/
abbrev Dt := DataW Unit
def key (s : ByteArray) : Lit := .string s.data.toList
/-- What a map's element reads as: a file's block, or nil. -/
def rdF : Value → Option (Dt × List MemPlace)
  | .pointer none => some (.nil, [])
  | .pointer (some ⟨b, 0, none⟩) => some (.lit (.int .i64 (b : Int)), [])
  | _ => none
def fD (b : Nat) : Dt := .lit (.int .i64 (b : Int))
theorem rdF_ptr (b : Nat) : rdF (.pointer (some ⟨b, 0, none⟩)) = some (fD b, []) := rfl
theorem rdF_nil : rdF (.pointer none) = some (.nil, []) := rfl
theorem rdF_inv {v : Value} {z : Dt × List MemPlace} (h : rdF v = some z) : (v = .pointer none ∧ z = (.nil, [])) ∨ ∃ b : Nat, v = .pointer (some ⟨b, 0, none⟩) ∧ z = (fD b, []) := by
  unfold rdF at h
  split at h
  · injection h with h; exact .inl ⟨rfl, h.symm⟩
  · injection h with h; exact .inr ⟨_, rfl, h.symm⟩
  · cases h
theorem keyed9 : Keyed Try.prog 9 := string_keyed Try.underlying9
theorem keyed3 : Keyed Try.prog 3 := int_keyed Try.underlying3

/-! ### The state -/
structure VFile where
  bytes : List UInt8
  synced : Nat
structure St where
  cap : Int
  bs : Nat
  bl : Nat
  bn : Nat
  pv : Value
  fv : Value
  o : Nat → Int
  seen : Dt
  lasts : Dt
  nth : Dt
  pend : List Turn
  flts : List Fault
  fb : List Nat
  fl : Nat → VFile
def St.cells (S : St) : Array Value := #[.int .i64 S.cap, .map (some S.bs), .map (some S.bl), S.pv, S.fv, .map (some S.bn), .int .i64 (S.o 0), .int .i64 (S.o 1), .int .i64 (S.o 2), .int .i64 (S.o 3), .int .i64 (S.o 4), .int .i64 (S.o 5), .int .i64 (S.o 6), .int .i64 (S.o 7), .bool false, .int .i64 0]
/-- Every element of a map of names is one of the files. -/
def Named (D : Dt) (fb : List Nat) : Prop := ∀ k z, Maps.has D k = true → ∃ b ∈ fb, D.atKey k z = fD b
/-- A slice value that reads as bytes, in a block of bytes from B on that nobody writes to any more. -/
def BytesAt (w : World) (B : Nat) (v : Value) (L : List UInt8) : Prop :=
  (v = .slice none 0 0 ∧ L = []) ∨ ∃ k c cur fz, v = .slice (some ⟨k, 0, none⟩) L.length c ∧ L.length ≤ c ∧ c ≤ maxLen ∧ B ≤ k ∧ w.heap[k]? = some (.cells cur 5 fz) ∧ ∀ i, i < L.length → cur[i]? = some (.int .u8 ((L.getD i 0).toNat : Int))
theorem BytesAt.kept {w w1 : World} {B : Nat} {v : Value} {L : List UInt8} (h : BytesAt w B v L) (hk : ∀ k cur fz, B ≤ k → w.heap[k]? = some (.cells cur 5 fz) → w1.heap[k]? = w.heap[k]?) : BytesAt w1 B v L := by
  rcases h with h | ⟨k, c, cur, fz, e, h1, h2, h3, h4, h5⟩
  · exact .inl h
  · exact .inr ⟨k, c, cur, fz, e, h1, h2, h3, (hk k cur fz h3 h4).trans h4, h5⟩
theorem BytesAt.below {w w1 : World} {B : Nat} {v : Value} {L : List UInt8} (h : BytesAt w B v L) (hb : Below w.heap.size w w1) : BytesAt w1 B v L := h.kept fun k _ _ _ hh => hb.block k (blk_lt hh)
theorem BytesAt.lower {w : World} {B B' : Nat} {v : Value} {L : List UInt8} (h : BytesAt w B v L) (hb : B' ≤ B) : BytesAt w B' v L := by
  rcases h with h | ⟨k, c, cur, fz, e, h1, h2, h3, h4, h5⟩
  · exact .inl h
  · exact .inr ⟨k, c, cur, fz, e, h1, h2, by omega, h4, h5⟩
theorem BytesAt.form {w : World} {B : Nat} {v : Value} {L : List UInt8} (h : BytesAt w B v L) : ∃ A c, v = .slice A L.length c ∧ L.length ≤ c := by
  rcases h with ⟨rfl, rfl⟩ | ⟨k, c, cur, fz, e, h1, h2, h3, h4, h5⟩
  · exact ⟨none, 0, rfl, Nat.le_refl _⟩
  · exact ⟨_, c, e, h1⟩
theorem add_lit0 (k j : Nat) : (⟨k, 0, none⟩ : Addr).add j = ⟨k, j, none⟩ := by unfold Addr.add; split <;> simp_all
theorem BytesAt.reads {w : World} {B : Nat} {A : Option Addr} {n c : Nat} {L : List UInt8} (h : BytesAt w B (.slice A n c) L) : ReadsInt w .u8 A n (L.map fun c => (c.toNat : Int)) := by
  rcases h with ⟨e, rfl⟩ | ⟨k, c', cur, fz, e, h1, h2, h3, h4, h5⟩
  · injection e with e1 e2 e3
    subst e2
    exact ⟨rfl, by decide, fun h => absurd h (Nat.lt_irrefl 0)⟩
  · injection e with e1 e2 e3
    subst e1 e2
    refine ⟨List.length_map _, by unfold maxLen at h2; omega, fun _ => ⟨_, rfl, fun j hj => ?_⟩⟩
    rw [add_lit0, World.cell?, h4]
    show cur[j]? = _
    rw [h5 j hj, List.getD_eq_getElem?_getD, List.getD_eq_getElem?_getD, List.getElem?_map, List.getElem?_eq_getElem hj]
    rfl
theorem BytesAt.take {w : World} {B : Nat} {A : Option Addr} {n c : Nat} {L : List UInt8} (h : BytesAt w B (.slice A n c) L) (m : Nat) (hm : m ≤ n) : BytesAt w B (.slice A m c) (L.take m) := by
  rcases h with ⟨e, rfl⟩ | ⟨k, c', cur, fz, e, h1, h2, h3, h4, h5⟩
  · injection e with e1 e2 e3
    subst e1 e2 e3
    obtain rfl : m = 0 := by omega
    exact .inl ⟨rfl, rfl⟩
  · injection e with e1 e2 e3
    subst e1 e2 e3
    have hl : (L.take m).length = m := by rw [List.length_take]; omega
    refine .inr ⟨k, c, cur, fz, by rw [hl], by omega, h2, h3, h4, fun i hi => ?_⟩
    rw [hl] at hi
    rw [h5 i (by omega), List.getD_eq_getElem?_getD, List.getD_eq_getElem?_getD, List.getElem?_take_of_lt hi]
/-- A file's cells. -/
structure FileAt (B : Nat) (x : VFile) (b : Nat) (w : World) : Prop where
  ge : B ≤ b
  cs : ∃ v, w.heap[b]? = some (.cells #[v, .int .i64 (x.synced : Int)] TFile (0, 0)) ∧ BytesAt w B v x.bytes
/-- A turn that may be: it creates a file that is known, removes or renames. -/
def TurnOk (t : Turn) (fb : List Nat) : Prop := t.name.size ≤ maxLen ∧ t.dest.size ≤ maxLen ∧ ((t.op = 1 ∧ ∃ f ∈ fb, t.f = some f) ∨ (t.op = 5 ∧ t.f = none) ∨ (t.op = 4 ∧ t.f = none))
/-- The kinds of operations are 1 to 7. -/
def Kinds (D : Dt) : Prop := ∀ k, Maps.has D k = true → ∃ i : Nat, 1 ≤ i ∧ i ≤ 7 ∧ k = .int .i64 (i : Int)
structure FsB (w0 : World) (g : Nat) (S : St) (w : World) : Prop where
  be : Below w0.heap.size w0 w
  gB : w0.heap.size ≤ g
  fs : w.heap[g]? = some (.cells S.cells TFS (0, 0))
  se : w.ownsMap Try.prog 9 rdF S.bs (Maps.size S.seen) S.seen
  la : w.ownsMap Try.prog 9 rdF S.bl (Maps.size S.lasts) S.lasts
  nt : w.ownsMap Try.prog 3 (plainElem Try.prog 3) S.bn (Maps.size S.nth) S.nth
  bB : w0.heap.size ≤ S.bs ∧ w0.heap.size ≤ S.bl ∧ w0.heap.size ≤ S.bn
  ne : S.bs ≠ S.bl ∧ S.bs ≠ S.bn ∧ S.bl ≠ S.bn
  pe : kTurn.R TTurn w w0.heap.size (fun _ => True) S.pv S.pend
  fa : kFault.R TFault w w0.heap.size (fun _ => True) S.fv S.flts
  fi : ∀ b ∈ S.fb, FileAt w0.heap.size (S.fl b) b w
  sn : Named S.seen S.fb
  ln : Named S.lasts S.fb
  pn : ∀ t ∈ S.pend, TurnOk t S.fb
  nb : Kinds S.nth
theorem FileAt.below {B : Nat} {x : VFile} {b : Nat} {w w1 : World} (h : FileAt B x b w) (hb : Below w.heap.size w w1) : FileAt B x b w1 := by
  obtain ⟨v, h1, h2⟩ := h.cs
  exact ⟨h.ge, v, (hb.block _ (blk_lt h1)).trans h1, h2.below hb⟩
theorem own_below {H : Type} {P : Program} {k : TypeId} {R : Value → Option (DataW H × List MemPlace)} {b n : Nat} {D : DataW H} {w w1 : World} (h : w.ownsMap P k R b n D) (hb : Below w.heap.size w w1) : w1.ownsMap P k R b n D := by
  obtain ⟨es, clock, h1, h2, h3, h4⟩ := h
  exact ⟨es, clock, (hb.block _ (blk_lt h1)).trans h1, h2, h3, h4⟩
theorem FsB.below {w0 w w1 : World} {g : Nat} {S : St} (h : FsB w0 g S w) (hb : Below w.heap.size w w1) : FsB w0 g S w1 where
  be := h.be.trans (hb.mono h.be.size)
  gB := h.gB
  fs := (hb.block _ (blk_lt h.fs)).trans h.fs
  se := own_below h.se hb
  la := own_below h.la hb
  nt := own_below h.nt hb
  bB := h.bB
  ne := h.ne
  pe := Kd.R_below h.pe hb
  fa := Kd.R_below h.fa hb
  fi := fun b hbm => (h.fi b hbm).below hb
  sn := h.sn
  ln := h.ln
  pn := h.pn
  nb := h.nb
theorem FsB.alloc {w0 w : World} {g : Nat} {S : St} (h : FsB w0 g S w) (o : Obj) : FsB w0 g S (w.alloc o) := h.below ((Below.refl _ _).alloc (Nat.le_refl _) _)
theorem FsB.drew {w0 w : World} {g : Nat} {S : St} (h : FsB w0 g S w) : FsB w0 g S w.drew := h.below (below_drew1 (Below.refl _ _))
theorem FsB.drewN {w0 w : World} {g : Nat} {S : St} (h : FsB w0 g S w) (n : Nat) : FsB w0 g S (w.drewN n) := h.below (pw_below_drewN (Below.refl _ _) n)
theorem FsB.cell {w0 w : World} {g : Nat} {S : St} (h : FsB w0 g S w) (i : Nat) (v : Value) (hv : S.cells[i]? = some v) : w.cell? ⟨g, i, none⟩ = some v := (blk_cell h.fs i).trans hv

/-! ### What stays -/
/-- Rows that are no file system, no file, no turns stand as they stood. -/
def KeptT (w w' : World) : Prop := w.heap.size ≤ w'.heap.size ∧ ∀ (k : Nat) (cs : Array Value) (t : TypeId) (z : Nat × Nat), w.heap[k]? = some (Obj.cells cs t z) → t ≠ TFS → t ≠ TFile → t ≠ TTurn → w'.heap[k]? = some (Obj.cells cs t z)
theorem KeptT.refl (w : World) : KeptT w w := ⟨Nat.le_refl _, fun _ _ _ _ h _ _ _ => h⟩
theorem KeptT.trans {w w1 w2 : World} (h : KeptT w w1) (h' : KeptT w1 w2) : KeptT w w2 := ⟨Nat.le_trans h.1 h'.1, fun k cs t z hk a b c => h'.2 k cs t z (h.2 k cs t z hk a b c) a b c⟩
theorem KeptT.of_below {w w1 : World} (hb : Below w.heap.size w w1) : KeptT w w1 := ⟨hb.size, fun k cs t z hk _ _ _ => (hb.block _ (blk_lt hk)).trans hk⟩

/-! ### made -/
set_option maxRecDepth 100000 in
theorem made_nil (w : World) : Calls Try.prog 33 #[.pointer none] w fun e w' => e = .returned (.bool false) ∧ w' = w := by
  have hup := Try.underlying27
  go_enter Try.func33, Try.ntmps33
  go_wp2
  go_ret
  exact ⟨rfl, rfl⟩
set_option maxRecDepth 100000 in
theorem made_some (g b : Nat) (w : World) (h : w.cell? ⟨g, 1, none⟩ = some (.map (some b))) : Calls Try.prog 33 #[.pointer (some ⟨g, 0, none⟩)] w fun e w' => e = .returned (.bool true) ∧ w' = w := by
  have hup := Try.underlying27
  have hus := Try.underlying73
  have hrun := run_neq_map_nil (P := Try.prog) w 69 _ _ (some b) Try.underlying69
  go_enter Try.func33, Try.ntmps33
  go_wp2
  go_ret
  exact ⟨rfl, rfl⟩
/-! ### nameRight -/
def nmC (c : UInt8) : Bool := (decide (97 ≤ c.toNat) && decide (c.toNat ≤ 122)) || (decide (48 ≤ c.toNat) && decide (c.toNat ≤ 57)) || c.toNat == 46 || c.toNat == 45
def nmOk (s : ByteArray) : Bool := decide (1 ≤ s.size) && decide (s.size ≤ 64) && s.data.toList.all nmC
theorem allb_take (p : UInt8 → Bool) (s : ByteArray) (i : Nat) (h : i < s.size) : (s.data.toList.take (i + 1)).all p = ((s.data.toList.take i).all p && p s[i]) := by
  rw [List.take_succ_eq_append_getElem (by rw [Array.length_toList]; exact h), List.all_append]
  simp only [List.all_cons, List.all_nil, Bool.and_true]
  rfl
theorem allb_bad (p : UInt8 → Bool) (s : ByteArray) (i : Nat) (h : i < s.size) (hb : p s[i] = false) : s.data.toList.all p = false := by
  rw [List.all_eq_false]
  refine ⟨s[i], ?_, by rw [hb]; decide⟩
  exact Array.mem_toList_iff.2 (Array.getElem_mem (show i < s.data.size from h))
set_option maxHeartbeats 4000000 in
set_option maxRecDepth 100000 in
theorem name_any (s : ByteArray) (w : World) (hs : s.size ≤ 9223372036854775807) :
    Calls Try.prog 34 #[.string s] w fun e w' => e = .returned (.bool (nmOk s)) ∧ Below w.heap.size w w' := by
  rcases (show s.size < 1 ∨ 64 < s.size ∨ (1 ≤ s.size ∧ s.size ≤ 64) by omega) with h | h | ⟨h, h'⟩
  · have HZ := Aside0.mk (show nmOk s = false by unfold nmOk; rw [decide_eq_false (by omega)]; rfl)
    go_enter Try.func34, Try.ntmps34
    go_wp2
    go_ret
    exact ⟨by rw [HZ.out]; rfl, Below.refl _ _⟩
  · have HZ := Aside0.mk (show nmOk s = false by unfold nmOk; rw [decide_eq_false (show ¬ s.size ≤ 64 by omega), Bool.and_false]; rfl)
    go_enter Try.func34, Try.ntmps34
    go_wp2
    go_ret
    exact ⟨by rw [HZ.out]; rfl, Below.refl _ _⟩
  · have HZ := Aside0.mk (show nmOk s = s.data.toList.all nmC by unfold nmOk; rw [decide_eq_true h, decide_eq_true h']; rfl)
    have kb := print_bytes (P := Try.prog) 9 22 5 Try.underlying9 Try.underlying22 Try.underlying5 s w
    have Hrow := Aside0.mk (rowB_new w s)
    have Hbel := Aside0.mk (bytes_below (Below.refl w.heap.size w) (Nat.le_refl _) 5 s)
    obtain ⟨g, hg⟩ : ∃ g, w.heap.size = g := ⟨_, rfl⟩
    have Hg := Aside0.mk hg
    rw [hg] at kb Hrow
    clear hg
    generalize Lib.bytesWorld w 5 s = W3 at kb Hrow Hbel
    have Hbl := Aside0.mk (show s.data.toList.length = s.size from Array.length_toList)
    go_enter Try.func34, Try.ntmps34
    go_wp2
    go_loop [16] (fun iv => ∃ i : Nat, i ≤ s.size ∧ iv = .int .i64 i ∧ Aside0 ((s.data.toList.take i).all nmC = true)) (fun iv => s.size - (intOf iv).toNat)
    case atStart => exact ⟨0, Nat.zero_le _, rfl, ⟨rfl⟩⟩
    case round =>
      obtain ⟨i, hi, rfl, Ha⟩ := hrel
      by_cases hlt : i < s.size
      · have hc1 := (Hrow.out i (by rw [Hbl.out]; exact hlt)).1
        have hgd : s.data.toList.getD i 0 = s[i] := by
          rw [List.getD_eq_getElem?_getD, Array.getElem?_toList, Array.getElem?_eq_getElem (show i < s.data.size from hlt)]; rfl
        rw [hgd] at hc1
        have hst := allb_take nmC s i hlt
        have hbd : nmC s[i] = false → s.data.toList.all nmC = false := allb_bad nmC s i hlt
        have hok : nmC s[i] = ((decide (97 ≤ s[i].toNat) && decide (s[i].toNat ≤ 122)) || (decide (48 ≤ s[i].toNat) && decide (s[i].toNat ≤ 57)) || s[i].toNat == 46 || s[i].toNat == 45) := rfl
        obtain ⟨n, hn⟩ : ∃ n, s[i].toNat = n := ⟨_, rfl⟩
        have hn2 := s[i].toNat_lt
        rw [hn] at hc1 hok hn2
        generalize nmC s[i] = b at *
        have Hst := Aside0.mk hst
        have Hbd := Aside0.mk hbd
        have Hok := Aside0.mk hok
        have hli : (i : Int) < (s.size : Int) := by omega
        clear hst hbd hok hgd hn
        rcases (show n = 45 ∨ n = 46 ∨ (48 ≤ n ∧ n ≤ 57) ∨ (97 ≤ n ∧ n ≤ 122) ∨ (n < 45 ∨ n = 47) ∨ (58 ≤ n ∧ n < 97) ∨ 122 < n by omega) with h1 | h1 | ⟨h1, h2⟩ | ⟨h1, h2⟩ | h1 | ⟨h1, h2⟩ | h1
        case inl | inr.inl | inr.inr.inl | inr.inr.inr.inl =>
          have hb : b = true := by
            rw [Hok.out]
            simp only [Bool.or_eq_true, Bool.and_eq_true, decide_eq_true_eq, beq_iff_eq]
            omega
          have HA2 := Aside0.mk (show (s.data.toList.take (i + 1)).all nmC = true by rw [Hst.out, Ha.out, hb]; rfl)
          clear hb
          (try subst h1)
          (try have d1 : decide ((97 : Int) ≤ (n : Int)) = false := decide_eq_false (by omega))
          (try have d1 : decide ((97 : Int) ≤ (n : Int)) = true := decide_eq_true (by omega))
          (try have d2 : decide ((n : Int) ≤ 122) = true := decide_eq_true (by omega))
          (try have d3 : decide ((48 : Int) ≤ (n : Int)) = true := decide_eq_true (by omega))
          (try have d4 : decide ((n : Int) ≤ 57) = true := decide_eq_true (by omega))
          go_wp2
          go_round
          case rel => exact ⟨i + 1, by omega, by go_num, HA2⟩
          case measure => simp [intOf]; omega
        all_goals
          have hb : b = false := by
            rw [Hok.out, Bool.eq_false_iff]
            simp only [ne_eq, Bool.or_eq_true, Bool.and_eq_true, decide_eq_true_eq, beq_iff_eq]
            omega
          have HB := Aside0.mk (Hbd.out hb)
          clear hb
          have hne1 : ((n : Int) == 46) = false := by rw [beq_eq_false_iff_ne]; omega
          have hne2 : ((n : Int) == 45) = false := by rw [beq_eq_false_iff_ne]; omega
          (try have d1 : decide ((97 : Int) ≤ (n : Int)) = false := decide_eq_false (by omega))
          (try have d1 : decide ((97 : Int) ≤ (n : Int)) = true := decide_eq_true (by omega))
          (try have d2 : decide ((n : Int) ≤ 122) = false := decide_eq_false (by omega))
          (try have d3 : decide ((48 : Int) ≤ (n : Int)) = false := decide_eq_false (by omega))
          (try have d3 : decide ((48 : Int) ≤ (n : Int)) = true := decide_eq_true (by omega))
          (try have d4 : decide ((n : Int) ≤ 57) = false := decide_eq_false (by omega))

          go_wp2
          go_ret
          exact ⟨by rw [HZ.out, HB.out]; rfl, Hbel.out⟩
      · obtain rfl : i = s.size := by omega
        have hall : s.data.toList.all nmC = true := by
          have := Ha.out
          rwa [List.take_of_length_le (by rw [Hbl.out]; exact Nat.le_refl _)] at this
        have HB := Aside0.mk hall
        clear hall
        go_wp2
        go_ret
        exact ⟨by rw [HZ.out, HB.out]; rfl, Hbel.out⟩
/-! ### Pending -/
set_option maxRecDepth 100000 in
theorem pending_nil (w : World) : Calls Try.prog 25 #[.pointer none] w fun e w' => e = .returned (.int .i64 0) ∧ w' = w := by
  go_enter Try.func25, Try.ntmps25
  go_wp2_with (go_at_call 33; refine (made_nil _).mono ?_; rintro e w1 ⟨rfl, rfl⟩)
  go_ret
  exact ⟨rfl, rfl⟩
end Go.Proofs.Ytamhecmopnekjaa.Vf
/- vfs: every method of a nil file system. -/
namespace Go.Proofs.Ytamhecmopnekjaa.Vf
open Go Go.RowKit Go.Maps Go.Proofs.Ytamhecmopnekjaa Go.Proofs.YtamhecmopnekjaaW.PrintWords
set_option linter.unusedVariables false
set_option linter.unusedSimpArgs false

set_option maxRecDepth 100000 in
theorem create_nil (s : ByteArray) (w : World) : Calls Try.prog 11 #[.pointer none, .string s] w fun e w' => e = .returned (.int .i64 6) ∧ w' = w := by
  go_enter Try.func11, Try.ntmps11
  go_wp2_with (go_at_call 33; refine (made_nil _).mono ?_; rintro e w1 ⟨rfl, rfl⟩)
  go_ret
  exact ⟨rfl, rfl⟩
set_option maxRecDepth 100000 in
theorem append_nil (s : ByteArray) (A : Option Addr) (n c : Nat) (w : World) : Calls Try.prog 12 #[.pointer none, .string s, .slice A n c] w fun e w' => e = .returned (.int .i64 6) ∧ Below w.heap.size w w' := by
  go_enter Try.func12, Try.ntmps12
  go_wp2_with (go_at_call 33; refine (made_nil _).mono ?_; rintro e w1 ⟨rfl, rfl⟩)
  go_ret
  exact ⟨rfl, by first | exact Below.refl _ _ | exact (Below.refl _ _).alloc (Nat.le_refl _) _⟩
set_option maxRecDepth 100000 in
theorem sync_nil (s : ByteArray) (w : World) : Calls Try.prog 13 #[.pointer none, .string s] w fun e w' => e = .returned (.int .i64 6) ∧ Below w.heap.size w w' := by
  go_enter Try.func13, Try.ntmps13
  go_wp2_with (go_at_call 33; refine (made_nil _).mono ?_; rintro e w1 ⟨rfl, rfl⟩)
  go_ret
  exact ⟨rfl, by first | exact Below.refl _ _ | exact (Below.refl _ _).alloc (Nat.le_refl _) _⟩
set_option maxRecDepth 100000 in
theorem rename_nil (s t : ByteArray) (w : World) : Calls Try.prog 15 #[.pointer none, .string s, .string t] w fun e w' => e = .returned (.int .i64 6) ∧ w' = w := by
  go_enter Try.func15, Try.ntmps15
  go_wp2_with (go_at_call 33; refine (made_nil _).mono ?_; rintro e w1 ⟨rfl, rfl⟩)
  go_ret
  exact ⟨rfl, rfl⟩
set_option maxRecDepth 100000 in
theorem remove_nil (s : ByteArray) (w : World) : Calls Try.prog 24 #[.pointer none, .string s] w fun e w' => e = .returned (.int .i64 6) ∧ w' = w := by
  go_enter Try.func24, Try.ntmps24
  go_wp2_with (go_at_call 33; refine (made_nil _).mono ?_; rintro e w1 ⟨rfl, rfl⟩)
  go_ret
  exact ⟨rfl, rfl⟩
set_option maxRecDepth 100000 in
theorem syncDir_nil (w : World) : Calls Try.prog 14 #[.pointer none] w fun e w' => e = .returned (.int .i64 6) ∧ Below w.heap.size w w' := by
  go_enter Try.func14, Try.ntmps14
  go_wp2_with (go_at_call 33; refine (made_nil _).mono ?_; rintro e w1 ⟨rfl, rfl⟩)
  go_ret
  exact ⟨rfl, by first | exact Below.refl _ _ | exact (Below.refl _ _).alloc (Nat.le_refl _) _⟩
set_option maxRecDepth 100000 in
theorem fail_nil (A : Option Addr) (n c : Nat) (w : World) : Calls Try.prog 21 #[.pointer none, .slice A n c] w fun e w' => e = .returned (.int .i64 6) ∧ w' = w := by
  go_enter Try.func21, Try.ntmps21
  go_wp2_with (go_at_call 33; refine (made_nil _).mono ?_; rintro e w1 ⟨rfl, rfl⟩)
  go_ret
  exact ⟨rfl, rfl⟩
set_option maxRecDepth 100000 in
theorem crash_nil (d : Int) (A : Option Addr) (n c : Nat) (w : World) : Calls Try.prog 16 #[.pointer none, .agg #[.int .i64 d, .slice A n c]] w fun e w' => e = .returned (.int .i64 6) ∧ Below w.heap.size w w' := by
  go_enter Try.func16, Try.ntmps16
  go_wp2_with (go_at_call 33; refine (made_nil _).mono ?_; rintro e w1 ⟨rfl, rfl⟩)
  go_ret
  exact ⟨rfl, by first | exact Below.refl _ _ | exact (Below.refl _ _).alloc (Nat.le_refl _) _⟩
set_option maxRecDepth 100000 in
theorem off_nil (w : World) : Calls Try.prog 29 #[.pointer none] w fun e w' => e = .returned (.bool false) ∧ w' = w := by
  go_enter Try.func29, Try.ntmps29
  go_wp2_with (go_at_call 33; refine (made_nil _).mono ?_; rintro e w1 ⟨rfl, rfl⟩)
  go_ret
  exact ⟨rfl, rfl⟩
set_option maxRecDepth 100000 in
theorem list_nil (w : World) : Calls Try.prog 30 #[.pointer none] w fun e w' => e = .returned (.slice none 0 0) ∧ w' = w := by
  go_enter Try.func30, Try.ntmps30
  go_wp2_with (go_at_call 33; refine (made_nil _).mono ?_; rintro e w1 ⟨rfl, rfl⟩)
  go_ret
  exact ⟨rfl, rfl⟩
set_option maxRecDepth 100000 in
theorem files_nil (w : World) : Calls Try.prog 18 #[.pointer none] w fun e w' => e = .returned (.slice none 0 0) ∧ w' = w := by
  go_enter Try.func18, Try.ntmps18
  go_wp2_with (go_at_call 33; refine (made_nil _).mono ?_; rintro e w1 ⟨rfl, rfl⟩)
  go_ret
  exact ⟨rfl, rfl⟩
set_option maxRecDepth 100000 in
theorem left_nil (w : World) : Calls Try.prog 23 #[.pointer none] w fun e w' => e = .returned (.int .i64 0) ∧ w' = w := by
  go_enter Try.func23, Try.ntmps23
  go_wp2_with (go_at_call 33; refine (made_nil _).mono ?_; rintro e w1 ⟨rfl, rfl⟩)
  go_ret
  exact ⟨rfl, rfl⟩
set_option maxRecDepth 100000 in
theorem fork_nil (w : World) : Calls Try.prog 32 #[.pointer none] w fun e w' => e = .returned (.pointer none) ∧ Below w.heap.size w w' := by
  go_enter Try.func32, Try.ntmps32
  go_wp2_with (go_at_call 33; refine (made_nil _).mono ?_; rintro e w1 ⟨rfl, rfl⟩)
  go_ret
  exact ⟨rfl, by first | exact Below.refl _ _ | exact (Below.refl _ _).alloc (Nat.le_refl _) _⟩
set_option maxRecDepth 100000 in
theorem size_nil (s : ByteArray) (w : World) : Calls Try.prog 27 #[.pointer none, .string s] w fun e w' => e = .returned (.tuple #[.int .i64 0, .int .i64 6]) ∧ w' = w := by
  go_enter Try.func27, Try.ntmps27
  go_wp2_with (go_at_call 33; refine (made_nil _).mono ?_; rintro e w1 ⟨rfl, rfl⟩)
  go_ret2
  exact ⟨rfl, rfl⟩
set_option maxRecDepth 100000 in
theorem read_nil (s : ByteArray) (i n : Int) (w : World) : Calls Try.prog 26 #[.pointer none, .string s, .int .i64 i, .int .i64 n] w fun e w' => e = .returned (.tuple #[.slice none 0 0, .int .i64 6]) ∧ w' = w := by
  go_enter Try.func26, Try.ntmps26
  go_wp2_with (go_at_call 33; refine (made_nil _).mono ?_; rintro e w1 ⟨rfl, rfl⟩)
  go_ret2
  exact ⟨rfl, rfl⟩
set_option maxRecDepth 100000 in
theorem stop_nil (n : Int) (w : World) : Calls Try.prog 28 #[.pointer none, .int .i64 n] w fun e w' => e = .returned (.tuple #[]) ∧ w' = w := by
  go_enter Try.func28, Try.ntmps28
  go_wp2_with (go_at_call 33; refine (made_nil _).mono ?_; rintro e w1 ⟨rfl, rfl⟩)
  go_end0
  exact ⟨rfl, rfl⟩
end Go.Proofs.Ytamhecmopnekjaa.Vf
/- vfs: New. -/
namespace Go.Proofs.Ytamhecmopnekjaa.Vf
open Go Go.RowKit Go.Maps Go.Proofs.Ytamhecmopnekjaa Go.Proofs.YtamhecmopnekjaaW.PrintWords
set_option linter.unusedVariables false
set_option linter.unusedSimpArgs false

/-- A new file system. -/
def st0 (cap : Int) (h : Nat) : St := { cap := cap, bs := h, bl := h + 1, bn := h + 2, pv := .slice none 0 0, fv := .slice none 0 0, o := fun _ => 0, seen := .map [], lasts := .map [], nth := .map [], pend := [], flts := [], fb := [], fl := fun _ => ⟨[], 0⟩ }
theorem named_nil (fb : List Nat) : Named (.map [] : Dt) fb := fun k z h => by cases h
theorem size_alloc (w : World) (o : Obj) : (w.alloc o).heap.size = w.heap.size + 1 := Array.size_push _
theorem new_fsb (cap : Int) (w : World) : FsB w (w.heap.size + 3) (st0 cap w.heap.size) ((((w.alloc (.map #[] 0)).alloc (.map #[] 0)).alloc (.map #[] 0)).alloc (.cells (st0 cap w.heap.size).cells TFS)) := by
  have hb1 : Below w.heap.size w (w.alloc (.map #[] 0)) := (Below.refl _ _).alloc (Nat.le_refl _) _
  have hb2 : Below w.heap.size w ((w.alloc (.map #[] 0)).alloc (.map #[] 0)) := below_alloc hb1 _
  have hb3 : Below w.heap.size w (((w.alloc (.map #[] 0)).alloc (.map #[] 0)).alloc (.map #[] 0)) := below_alloc hb2 _
  have s1 := size_alloc w (.map #[] 0)
  have s2 := size_alloc (w.alloc (.map #[] 0)) (.map #[] 0)
  have s3 := size_alloc ((w.alloc (.map #[] 0)).alloc (.map #[] 0)) (.map #[] 0)
  have m1 := World.ownsMap_made (H := Unit) w Try.prog 9 rdF
  have m2 := World.ownsMap_made (H := Unit) (w.alloc (.map #[] 0)) Try.prog 9 rdF
  have m3 := World.ownsMap_made (H := Unit) ((w.alloc (.map #[] 0)).alloc (.map #[] 0)) Try.prog 3 (plainElem Try.prog 3)
  rw [s1] at m2
  rw [s2, s1] at m3
  have hg := heap_alloc_new (((w.alloc (.map #[] 0)).alloc (.map #[] 0)).alloc (.map #[] 0)) (.cells (st0 cap w.heap.size).cells TFS)
  rw [s3, s2, s1] at hg
  exact {
    be := below_alloc hb3 _
    gB := by omega
    fs := hg
    se := ((m1.alloc _).alloc _).alloc _
    la := (m2.alloc _).alloc _
    nt := m3.alloc _
    bB := by show w.heap.size ≤ w.heap.size ∧ w.heap.size ≤ w.heap.size + 1 ∧ w.heap.size ≤ w.heap.size + 2; omega
    ne := by show w.heap.size ≠ w.heap.size + 1 ∧ w.heap.size ≠ w.heap.size + 2 ∧ w.heap.size + 1 ≠ w.heap.size + 2; omega
    pe := Kd.R_nil _ _ _ _ _
    fa := Kd.R_nil _ _ _ _ _
    fi := fun b hb => by cases hb
    sn := named_nil _
    ln := named_nil _
    pn := fun t ht => by cases ht
    nb := fun k h => by cases h }
set_option maxHeartbeats 1000000 in
set_option maxRecDepth 100000 in
theorem new_some (cap : Int) (w : World) (h0 : 0 ≤ cap) (h1 : cap ≤ 16777216) :
    Calls Try.prog 10 #[.int .i64 cap] w fun e w' => e = .returned (.tuple #[.pointer (some ⟨w.heap.size + 3, 0, none⟩), .int .i64 0]) ∧ FsB w (w.heap.size + 3) (st0 cap w.heap.size) w' ∧ KeptT w w' := by
  have hmm := @run_makeMap Try.prog
  have hu := Try.underlying73
  go_enter Try.func10, Try.ntmps10
  go_wp2
  go_ret2
  exact ⟨rfl, new_fsb cap w, KeptT.of_below (new_fsb cap w).be⟩
set_option maxRecDepth 100000 in
theorem new_none (cap : Int) (w : World) (h : cap < 0 ∨ 16777216 < cap) :
    Calls Try.prog 10 #[.int .i64 cap] w fun e w' => e = .returned (.tuple #[.pointer none, .int .i64 1]) ∧ w' = w := by
  rcases (show cap < 0 ∨ (0 ≤ cap ∧ 16777216 < cap) by omega) with h | ⟨h, h'⟩
  · go_enter Try.func10, Try.ntmps10
    go_wp2
    go_ret2
    exact ⟨rfl, rfl⟩
  · have d1 : decide (cap < 0) = false := decide_eq_false (by omega)
    clear h
    go_enter Try.func10, Try.ntmps10
    go_wp2
    go_ret2
    exact ⟨rfl, rfl⟩
end Go.Proofs.Ytamhecmopnekjaa.Vf
/- A region that draws its order, where several operations that leave no value (a map literal's entries) may come up in any order: one law for all orders. -/
namespace Go.Proofs.Ytamhecmopnekjaa.Bag
open Go
set_option linter.unusedVariables false

/-- Listed are those that 'base' lists, and those of 'done'. -/
structure Rep (base l : Array Bool) (done : List Nat) : Prop where
  size : l.size = base.size
  at_ : ∀ i, i < base.size → l[i]? = some (base.getD i false || done.contains i)
theorem Rep.set {base l : Array Bool} {done : List Nat} (h : Rep base l done) (i : Nat) : Rep base (l.setIfInBounds i true) (i :: done) where
  size := by rw [Array.size_setIfInBounds]; exact h.size
  at_ := fun k hk => by
    rw [Array.getElem?_setIfInBounds]
    by_cases e : i = k
    · subst e
      rw [if_pos rfl, if_pos (by rw [h.size]; exact hk)]
      simp
    · rw [if_neg e, h.at_ k hk, List.contains_cons]
      have : (k == i) = false := beq_eq_false_iff_ne.2 (fun x => e x.symm)
      rw [this, Bool.false_or]
/-- Whoever is not listed and not of the bag waits for each of the bag; and the bag waits for nobody that is not listed. -/
def bagOk (md : Region.Mode) (ops : Array Oper) (base : Array Bool) (J : List Nat) : Bool :=
  (ops.size == base.size && J.all fun j => decide (j < base.size)) && (List.range base.size).all fun i => (base.getD i false && !J.contains i) || (match ops[i]? with
    | none => false
    | some o => if J.contains i then !base.getD i false && o.after.toList.all fun e => !Region.binds md e || (decide (e.on < base.size) && base.getD e.on false)
      else (J.all fun j => o.after.toList.any fun e => Region.binds md e && e.on == j) || o.after.toList.any fun e => Region.binds md e && (decide (e.on < base.size) && (!base.getD e.on false && !J.contains e.on)))
theorem exists_left : ∀ (J done : List Nat), J.Nodup → done.length < J.length → ∃ j ∈ J, j ∉ done
  | [], done, _, h => absurd h (Nat.not_lt_zero _)
  | a :: J, done, hn, h => by
    by_cases ha : a ∈ done
    · obtain ⟨j, hj, hd⟩ := exists_left J (done.erase a) (List.nodup_cons.1 hn).2 (by rw [List.length_erase_of_mem ha]; rw [List.length_cons] at h; have := List.length_pos_of_mem ha; omega)
      have hne : j ≠ a := fun e => (List.nodup_cons.1 hn).1 (e ▸ hj)
      exact ⟨j, List.mem_cons_of_mem _ hj, fun hx => hd ((List.mem_erase_of_ne hne).2 hx)⟩
    · exact ⟨a, by simp, ha⟩
theorem all_in : ∀ (J done : List Nat), done.Nodup → (∀ d ∈ done, d ∈ J) → J.Nodup → done.length = J.length → ∀ j ∈ J, j ∈ done := by
  intro J done h1 h2 h3 h4 j hj
  apply Decidable.byContradiction
  intro hjd
  obtain ⟨d, hd, hdj⟩ := exists_left done (J.erase j) h1 (by rw [List.length_erase_of_mem hj]; have := List.length_pos_of_mem hj; omega)
  have hne : d ≠ j := fun e => hjd (e ▸ hd)
  exact hdj ((List.mem_erase_of_ne hne).2 (h2 d hd))
theorem wpAnyH_bag {P : Program} {md : Region.Mode} {ops : Array Oper} {Q : Exit → Act → World → Prop} {a : Act} (I : Nat → World → Prop) (base fin : Array Bool) (J : List Nat) (hJ : bagOk md ops base J = true) (hJn : J.Nodup)
    (hfin : Rep base fin J) (hstep : ∀ i ∈ J, ∀ c w, c < J.length → I c w → wpOp P ops Q i (fun a' w' => a' = a ∧ I (c + 1) w') a w) (F : Nat)
    (hend : ∀ w, I J.length w → wpAnyH P md ops Q (fun _ => True) F fin a w) :
    ∀ (k : Nat) (done : List Nat) (l : Array Bool) (w : World), done.Nodup → (∀ d ∈ done, d ∈ J) → done.length + k = J.length → Rep base l done → I done.length w → wpAnyH P md ops Q (fun _ => True) (F + k) l a w := by
  unfold bagOk at hJ
  rw [Bool.and_eq_true, Bool.and_eq_true] at hJ
  obtain ⟨⟨hsz, hJlt⟩, hall⟩ := hJ
  have hsz := eq_of_beq hsz
  have hrow : ∀ i, i < base.size → _ := fun i hi => List.all_eq_true.1 hall i (List.mem_range.2 hi)
  intro k
  induction k with
  | zero =>
    intro done l w hn hd hc hl hI
    have hin := all_in J done hn hd hJn (by omega)
    have he : l = fin := by
      apply Array.ext_getElem?
      intro i
      by_cases hi : i < base.size
      · rw [hl.at_ i hi, hfin.at_ i hi]
        congr 2
        rw [Bool.eq_iff_iff, List.contains_iff_mem, List.contains_iff_mem]
        exact ⟨hd i, hin i⟩
      · rw [Array.getElem?_eq_none (by rw [hl.size]; omega), Array.getElem?_eq_none (by rw [hfin.size]; omega)]
    rw [he]
    exact hend w (by rw [show done.length = J.length by omega] at hI; exact hI)
  | succ k ih =>
    intro done l w hn hd hc hl hI
    obtain ⟨j, hj, hjd⟩ := exists_left J done hJn (by omega)
    -- what the row of an operation says
    have hun : ∀ i, l.getD i true = false → i < base.size ∧ base.getD i false = false ∧ i ∉ done := fun i h => by
      by_cases hi : i < base.size
      · have h1 := hl.at_ i hi
        rw [Array.getD_eq_getD_getElem?, h1] at h
        simp only [Option.getD_some, Bool.or_eq_false_iff] at h
        exact ⟨hi, h.1, fun hx => by rw [List.contains_iff_mem.2 hx] at h; exact absurd h.2 (by decide)⟩
      · rw [Array.getD_eq_getD_getElem?, Array.getElem?_eq_none (by rw [hl.size]; omega)] at h
        exact absurd h (by decide)
    have rowJ : ∀ j ∈ J, j < base.size ∧ ∃ o, ops[j]? = some o ∧ base.getD j false = false ∧ ∀ e ∈ o.after, Region.binds md e = true → e.on < base.size ∧ base.getD e.on false = true := fun j hj => by
      have hlt : j < base.size := of_decide_eq_true (List.all_eq_true.1 hJlt j hj)
      have h := List.all_eq_true.1 hall j (List.mem_range.2 hlt)
      have hc := List.contains_iff_mem.2 hj
      rw [hc] at h
      cases ho : ops[j]? with
      | none => rw [ho] at h; simp at h
      | some o =>
        rw [ho] at h
        simp only [Bool.not_true, Bool.and_false, Bool.false_or, if_true, Bool.and_eq_true, Bool.not_eq_true', List.all_eq_true, Bool.or_eq_true, decide_eq_true_eq] at h
        refine ⟨hlt, o, rfl, h.1, fun e he hb => ?_⟩
        rcases h.2 e (Array.mem_toList_iff.2 he) with h1 | h1
        · rw [hb] at h1; cases h1
        · exact h1
    have rowO : ∀ i, i < base.size → i ∉ J → base.getD i false = false → ∃ o, ops[i]? = some o ∧ ((∀ j ∈ J, ∃ e ∈ o.after, Region.binds md e = true ∧ e.on = j) ∨ ∃ e ∈ o.after, Region.binds md e = true ∧ e.on < base.size ∧ base.getD e.on false = false ∧ e.on ∉ J) := fun i hi hiJ hb => by
      have h := List.all_eq_true.1 hall i (List.mem_range.2 hi)
      have hc : J.contains i = false := by rw [Bool.eq_false_iff]; exact fun x => hiJ (List.contains_iff_mem.1 x)
      rw [hb, hc] at h
      cases ho : ops[i]? with
      | none => rw [ho] at h; simp at h
      | some o =>
        rw [ho] at h
        simp only [Bool.false_and, Bool.false_or, Bool.false_eq_true, if_false, Bool.or_eq_true, List.all_eq_true, List.any_eq_true, Bool.and_eq_true, beq_iff_eq, decide_eq_true_eq, Bool.not_eq_true'] at h
        refine ⟨o, rfl, ?_⟩
        rcases h with h | h
        · left
          intro j hj
          obtain ⟨e, he, h1, h2⟩ := h j hj
          exact ⟨e, Array.mem_toList_iff.1 he, h1, h2⟩
        · right
          obtain ⟨e, he, h1, h2, h3, h4⟩ := h
          exact ⟨e, Array.mem_toList_iff.1 he, h1, h2, h3, fun x => by rw [List.contains_iff_mem.2 x] at h4; cases h4⟩
    have listedT : ∀ i, i < base.size → base.getD i false = true → l.getD i false = true := fun i hi hb => by
      rw [Array.getD_eq_getD_getElem?, hl.at_ i hi, hb]; rfl
    refine wpAnyH_all rfl (fun he => ?_) (fun i hi => ?_)
    · -- somebody of the bag may come up
      obtain ⟨hlt, o, ho, hb, haf⟩ := rowJ j hj
      have hr : j ∈ Region.ready md ops l := mem_ready.2 ⟨by
        rw [Array.getD_eq_getD_getElem?, hl.at_ j hlt, hb]
        have : done.contains j = false := by rw [Bool.eq_false_iff]; exact fun x => hjd (List.contains_iff_mem.1 x)
        rw [this]; rfl, o, ho, fun e he hbd => listedT e.on (haf e he hbd).1 (haf e he hbd).2⟩
      rw [he] at hr
      cases hr
    · obtain ⟨h1, o, ho, haf⟩ := mem_ready.1 hi
      obtain ⟨hlt, hb, hnd⟩ := hun i h1
      have hiJ : i ∈ J := by
        apply Decidable.byContradiction
        intro hiJ
        obtain ⟨o', ho', hw⟩ := rowO i hlt hiJ hb
        obtain rfl : o' = o := Option.some.inj (ho'.symm.trans ho)
        rcases hw with hw | ⟨e, he, hbd, helt, heb, heJ⟩
        case inr =>
          have h2 := haf e he hbd
          rw [Array.getD_eq_getD_getElem?, hl.at_ e.on helt, heb] at h2
          simp only [Option.getD_some, Bool.false_or] at h2
          exact heJ (hd _ (List.contains_iff_mem.1 h2))
        obtain ⟨e, he, hbd, hon⟩ := hw j hj
        have h2 := haf e he hbd
        rw [hon] at h2
        obtain ⟨hjl, _, _, hbj, _⟩ := rowJ j hj
        rw [Array.getD_eq_getD_getElem?, hl.at_ j hjl, hbj] at h2
        simp only [Option.getD_some, Bool.false_or] at h2
        exact hjd (List.contains_iff_mem.1 h2)
      refine wpOp_mono (fun a' w' h3 => ?_) (hstep i hiJ _ w (by omega) hI)
      obtain ⟨rfl, h3⟩ := h3
      exact ⟨trivial, ih (i :: done) _ w' (List.nodup_cons.2 ⟨hnd, hn⟩) (fun d hdm => (List.mem_cons.1 hdm).elim (fun e => e ▸ hiJ) (hd d)) (by rw [List.length_cons]; omega) (hl.set i) h3⟩
end Go.Proofs.Ytamhecmopnekjaa.Bag
/- vfs: what a store into the file system's own block leaves. -/
namespace Go.Proofs.Ytamhecmopnekjaa.Vf
open Go Go.RowKit Go.Maps Go.Proofs.Ytamhecmopnekjaa Go.Proofs.YtamhecmopnekjaaW.PrintWords
set_option linter.unusedVariables false
set_option linter.unusedSimpArgs false

theorem grown_set (w : World) (g i : Nat) (v : Value) : w.grownBy (w.setCell ⟨g, i, none⟩ v) (some g) :=
  ⟨rfl, rfl, rfl, by simp [World.setCell], fun k hk hne => Below.heap_setCell w ⟨g, i, none⟩ v k (fun e => hne (by rw [e]))⟩
/-- An own row of other blocks than g's kind. -/
theorem R_far {α : Type} {d : Kd α} {e T base g : Nat} {w w' : World} {cs : Array Value} {v : Value} {xs : List α} (hE : ∀ q ∈ e :: d.E, q ≠ T) (hgb : w.heap[g]? = some (.cells cs T (0, 0))) (hg : w.grownBy w' (some g)) (h : d.R e w base (fun _ => True) v xs) : d.R e w' base (fun _ => True) v xs := by
  refine Kd.R_mono (Kd.R_move (Kd.R_bound h) (fun k hk => ?_)) (fun _ _ => trivial)
  obtain ⟨_, _, hlt, q, hq, cells, hcell⟩ := hk
  refine hg.block k hlt (fun x => ?_)
  injection x with x
  subst x
  have := hcell.symm.trans hgb
  injection this with this
  injection this with _ h2 _
  exact hE q hq h2
theorem map_far {H : Type} {P : Program} {k : TypeId} {R : Value → Option (DataW H × List MemPlace)} {b n T g : Nat} {D : DataW H} {w w' : World} {cs : Array Value} (hgb : w.heap[g]? = some (.cells cs T (0, 0))) (hg : w.grownBy w' (some g)) (h : w.ownsMap P k R b n D) : w'.ownsMap P k R b n D := by
  refine h.kept hg (fun x => ?_)
  injection x with x
  subst x
  obtain ⟨es, clock, h1, _⟩ := h
  have := h1.symm.trans hgb
  cases this
theorem BytesAt.far {B T g : Nat} {v : Value} {L : List UInt8} {w w' : World} {cs : Array Value} (hT2 : T ≠ 5) (hgb : w.heap[g]? = some (.cells cs T (0, 0))) (hg : w.grownBy w' (some g)) (h : BytesAt w B v L) : BytesAt w' B v L :=
  h.kept fun k cur fz _ hk => hg.block k (blk_lt hk) (fun e => by
    injection e with e
    subst e
    have := hk.symm.trans hgb
    injection this with this
    injection this with _ h2 _
    exact hT2 h2.symm)
theorem FileAt.far {B T g b : Nat} {x : VFile} {w w' : World} {cs : Array Value} (hT : T ≠ TFile) (hT2 : T ≠ 5) (hgb : w.heap[g]? = some (.cells cs T (0, 0))) (hg : w.grownBy w' (some g)) (h : FileAt B x b w) : FileAt B x b w' := by
  obtain ⟨v, h1, h2⟩ := h.cs
  refine ⟨h.ge, v, (hg.block b (blk_lt h1) (fun e => ?_)).trans h1, h2.far hT2 hgb hg⟩
  injection e with e
  subst e
  have := h1.symm.trans hgb
  injection this with this
  injection this with _ h2 _
  exact hT h2.symm
theorem FsB.setO {w0 w w' : World} {g : Nat} {S : St} (h : FsB w0 g S w) (o' : Nat → Int) (hg : w.grownBy w' (some g)) (hc : w'.heap[g]? = some (.cells ({ S with o := o' } : St).cells TFS (0, 0))) : FsB w0 g { S with o := o' } w' where
  be := h.be.grown hg h.be.size (fun k hk => by injection hk with hk; rw [← hk]; exact h.gB)
  gB := h.gB
  fs := hc
  se := map_far h.fs hg h.se
  la := map_far h.fs hg h.la
  nt := map_far h.fs hg h.nt
  bB := h.bB
  ne := h.ne
  pe := R_far (T := TFS) (by decide) h.fs hg h.pe
  fa := R_far (T := TFS) (by decide) h.fs hg h.fa
  fi := fun b hb => (h.fi b hb).far (T := TFS) (by decide) (by decide) h.fs hg
  sn := h.sn
  ln := h.ln
  pn := h.pn
  nb := h.nb
theorem cells_o (S : St) (c : Fin 7) : S.cells[6 + c.val]? = some (.int .i64 (S.o c.val)) := by
  match c with
  | ⟨0, _⟩ => rfl
  | ⟨1, _⟩ => rfl
  | ⟨2, _⟩ => rfl
  | ⟨3, _⟩ => rfl
  | ⟨4, _⟩ => rfl
  | ⟨5, _⟩ => rfl
  | ⟨6, _⟩ => rfl
def upd (o : Nat → Int) (c : Nat) (v : Int) : Nat → Int := fun k => if k = c then v else o k
theorem cells_upd (S : St) (c : Fin 7) (v : Int) : S.cells.setIfInBounds (6 + c.val) (.int .i64 v) = ({ S with o := upd S.o c.val v } : St).cells := by
  match c with
  | ⟨0, _⟩ => rfl
  | ⟨1, _⟩ => rfl
  | ⟨2, _⟩ => rfl
  | ⟨3, _⟩ => rfl
  | ⟨4, _⟩ => rfl
  | ⟨5, _⟩ => rfl
  | ⟨6, _⟩ => rfl
theorem FsB.incO {w0 w : World} {g : Nat} {S : St} (h : FsB w0 g S w) (c : Fin 7) (v : Int) : FsB w0 g { S with o := upd S.o c.val v } (w.setCell ⟨g, 6 + c.val, none⟩ (.int .i64 v)) :=
  h.setO _ (grown_set w g _ _) (blk_put h.fs _ _ (cells_upd S c v))
theorem KeptT.set {w : World} {g i : Nat} {v : Value} {cs : Array Value} (h : w.heap[g]? = some (.cells cs TFS (0, 0))) : KeptT w (w.setCell ⟨g, i, none⟩ v) := by
  refine ⟨(grown_set w g i v).size, fun k cs' t z hk h1 h2 h3 => ?_⟩
  rw [(grown_set w g i v).block k (blk_lt hk) (fun e => ?_)]
  · exact hk
  · injection e with e
    subst e
    have := hk.symm.trans h
    injection this with this
    injection this with _ h4 _
    exact h1 h4
def litN : Lit → Nat
  | .int _ a => a.toNat
  | _ => 0
theorem kinds_size {R : Value → Option (Dt × List MemPlace)} {b n : Nat} {D : Dt} {w : World} (h : w.ownsMap Try.prog 3 R b n D) (hk : Kinds D) : Maps.size D ≤ 7 := by
  obtain ⟨es, rfl, hp, hl⟩ := h.entries keyed3
  have hin : ∀ p ∈ es, ∃ i : Nat, 1 ≤ i ∧ i ≤ 7 ∧ p.1 = .int .i64 (i : Int) := fun p hpm => hk p.1 (by
    rw [Maps.has_eq, List.any_eq_true]
    exact ⟨p, hpm, WideAt.sameKey_self (hl p hpm)⟩)
  have hnd : (es.map fun p => litN p.1).Nodup := by
    rw [List.Nodup, List.pairwise_map]
    refine hp.imp_of_mem (fun {p q} h1 h2 hne he => ?_)
    obtain ⟨i, _, _, e1⟩ := hin p h1
    obtain ⟨j, _, _, e2⟩ := hin q h2
    rw [e1, e2] at he hne
    have : i = j := by simpa [litN] using he
    exact hne (by rw [this])
  show es.length ≤ 7
  apply Decidable.byContradiction
  intro hgt
  obtain ⟨j, hj, hn⟩ := Bag.exists_left (es.map fun p => litN p.1) [1, 2, 3, 4, 5, 6, 7] hnd (by rw [List.length_map]; show 7 < _; omega)
  obtain ⟨p, hpm, rfl⟩ := List.mem_map.1 hj
  obtain ⟨i, h1, h2, e⟩ := hin p hpm
  rw [e] at hn
  apply hn
  show (i : Int).toNat ∈ _
  rw [Int.toNat_natCast]
  simp only [List.mem_cons, List.not_mem_nil, or_false]
  omega
theorem Kinds.put {D : Dt} (h : Kinds D) (i : Nat) (h1 : 1 ≤ i) (h2 : i ≤ 7) (d : Dt) : Kinds (D.put (.int .i64 (i : Int)) d) := fun k hk => by
  by_cases e : k = .int .i64 (i : Int)
  · exact ⟨i, h1, h2, e⟩
  · rw [Maps.has_put_other e] at hk
    exact h k hk
/-- nth is written. -/
theorem FsB.setN {w0 w w' : World} {g : Nat} {S : St} (h : FsB w0 g S w) {D : Dt} {n : Nat} (ho : w'.ownsMap Try.prog 3 (plainElem Try.prog 3) S.bn n D) (hs : Maps.size D ≤ 7) (hD : Kinds D) (hg : w.grownBy w' (some S.bn)) : FsB w0 g { S with nth := D } w' where
  be := h.be.grown hg h.be.size (fun k hk => by injection hk with hk; rw [← hk]; exact h.bB.2.2)
  gB := h.gB
  fs := by
    refine (hg.block g (blk_lt h.fs) (fun e => ?_)).trans h.fs
    injection e with e
    obtain ⟨es, clock, h1, _⟩ := h.nt
    rw [← e] at h1
    have := h1.symm.trans h.fs
    cases this
  se := h.se.kept hg (fun e => by injection e with e; exact h.ne.2.1 e)
  la := h.la.kept hg (fun e => by injection e with e; exact h.ne.2.2 e)
  nt := by
    obtain ⟨es, clock, h1, h2, h3, h4⟩ := ho
    refine ⟨es, clock, h1, h2, ?_, h4⟩
    rw [h4]
    show es.size ≤ List.length _
    first | rw [length_sorted] | rw [Go.length_sorted] | rw [Go.ChangeMaps.length_sorted]
    rw [List.length_map, Array.length_toList]
    exact Nat.le_refl _
  bB := h.bB
  ne := h.ne
  pe := by
    refine Kd.R_mono (Kd.R_move (Kd.R_bound h.pe) (fun k hk => ?_)) (fun _ _ => trivial)
    obtain ⟨_, _, hlt, q, hq, cells, hcell⟩ := hk
    refine hg.block k hlt (fun x => ?_)
    injection x with x
    obtain ⟨es, clock, h1, _⟩ := h.nt
    rw [← x] at h1
    have := h1.symm.trans hcell
    cases this
  fa := by
    refine Kd.R_mono (Kd.R_move (Kd.R_bound h.fa) (fun k hk => ?_)) (fun _ _ => trivial)
    obtain ⟨_, _, hlt, q, hq, cells, hcell⟩ := hk
    refine hg.block k hlt (fun x => ?_)
    injection x with x
    obtain ⟨es, clock, h1, _⟩ := h.nt
    rw [← x] at h1
    have := h1.symm.trans hcell
    cases this
  fi := fun b hb => by
    obtain ⟨v, h1, h2⟩ := (h.fi b hb).cs
    have hm : ∀ k cs t z, w.heap[k]? = some (Obj.cells cs t z) → some k ≠ some S.bn := fun k cs t z hk x => by
      injection x with x
      obtain ⟨es, clock, h1, _⟩ := h.nt
      rw [← x] at h1
      have := h1.symm.trans hk
      cases this
    exact ⟨(h.fi b hb).ge, v, (hg.block b (blk_lt h1) (hm _ _ _ _ h1)).trans h1, h2.kept fun k cur fz _ hk => hg.block k (blk_lt hk) (hm _ _ _ _ hk)⟩
  sn := h.sn
  ln := h.ln
  pn := h.pn
  nb := hD
theorem KeptT.fs {w w' : World} {g : Nat} {cs : Array Value} (hg : w.grownBy w' (some g)) (h : w.heap[g]? = some (.cells cs TFS (0, 0))) : KeptT w w' := by
  refine ⟨hg.size, fun k cs' t z hk h1 h2 h3 => (hg.block k (blk_lt hk) (fun e => ?_)).trans hk⟩
  injection e with e
  subst e
  have := hk.symm.trans h
  injection this with this
  injection this with _ h4 _
  exact h1 h4
theorem KeptT.map {H : Type} {P : Program} {kt : TypeId} {R : Value → Option (DataW H × List MemPlace)} {b n : Nat} {D : DataW H} {w w' : World} (hg : w.grownBy w' (some b)) (h : w.ownsMap P kt R b n D) : KeptT w w' := by
  refine ⟨hg.size, fun k cs' t z hk h1 h2 h3 => (hg.block k (blk_lt hk) (fun e => ?_)).trans hk⟩
  injection e with e
  obtain ⟨es, clock, h1, _⟩ := h
  rw [← e] at h1
  have := h1.symm.trans hk
  cases this
/-- All blocks but two stand as they stood. -/
def But2 (w w' : World) (g b : Nat) : Prop := w.heap.size ≤ w'.heap.size ∧ ∀ k, k < w.heap.size → k ≠ g → k ≠ b → w'.heap[k]? = w.heap[k]?
theorem But2.of_grown {w w1 w2 : World} {g b : Nat} (h1 : w.grownBy w1 (some g)) (h2 : w1.grownBy w2 (some b)) : But2 w w2 g b :=
  ⟨Nat.le_trans h1.size h2.size, fun k hk a c => (h2.block k (Nat.lt_of_lt_of_le hk h1.size) (fun e => by injection e with e; exact c e)).trans (h1.block k hk (fun e => by injection e with e; exact a e))⟩
theorem But2.kept {w w' : World} {g b : Nat} {S : St} {w0 : World} (h : But2 w w' g b) (hf : FsB w0 g S w) (hb : b = S.bn) : KeptT w w' := by
  refine ⟨h.1, fun k cs t z hk h1 h2 h3 => (h.2 k (blk_lt hk) (fun e => ?_) (fun e => ?_)).trans hk⟩
  · subst e
    have := hk.symm.trans hf.fs
    injection this with this
    injection this with _ h4 _
    exact h1 h4
  · subst hb
    obtain ⟨es, clock, h4, _⟩ := hf.nt
    rw [← e] at h4
    have := h4.symm.trans hk
    cases this
end Go.Proofs.Ytamhecmopnekjaa.Vf
