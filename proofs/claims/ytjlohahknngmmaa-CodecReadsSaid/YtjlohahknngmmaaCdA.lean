/- Walks of the codec's Writer: put over a row of its own, and what leads to it. -/
import Derived.Test.YtjlohahknngmmaaProg
import Derived.Test.YtjlohahknngmmaaWWords
import Derived.Test.YtjlohahknngmmaaPCx
import Derived.WalkKit
import Derived.KernelRfl
import Derived.Lib.Hide
import Derived.Laws.IdiomStrings
import Derived.BigQuiet
import Derived.RowKit3
namespace Go.Proofs.Ytjlohahknngmmaa
open Go Go.RowKit Go.Proofs.YtjlohahknngmmaaW.PrintWords Go.Proofs.Ytjlohahknngmmaa.PC
set_option linter.unusedVariables false

theorem infoByte : (Try.prog.info? 5).map (fun i => (i.zero, i.size, i.bytes)) = some (some (.int .u8 0), 1, 1) := by kernel_rfl

/-- A Writer in block b, its bytes l in a row of its own. -/
def Wr (B b : Nat) (most : Int) (over : Bool) (v : Value) (l : List Int) (w : World) : Prop :=
  w.heap[b]? = some (.cells #[.int .i64 most, v, .bool over] 68 (0, 0)) ∧ w.ownsRow B 5 1 v l.length (nums .u8 l) ∧ B ≤ b

/-- What a call on a Writer leaves. -/
def WPost (B b : Nat) (most : Int) (v : Value) (p : Bool × List Int) (w w' : World) : Prop :=
  ∃ v', Wr B b most p.1 v' p.2 w' ∧ Below B w w' ∧ KeepBut w w' b v.ownBlock ∧ (v'.ownBlock = v.ownBlock ∨ ∃ c, v'.ownBlock = some c ∧ w.heap.size ≤ c)

def putP (most : Int) (over : Bool) (l xs : List Int) : Bool × List Int :=
  if over = true then (true, l) else if most - l.length < xs.length then (true, l) else (false, l ++ xs)

theorem Wr.lt {B b : Nat} {most : Int} {over : Bool} {v : Value} {l : List Int} {w : World} (h : Wr B b most over v l w) : b < w.heap.size := blk_lt h.1
theorem Wr.own_ne {B b : Nat} {most : Int} {over : Bool} {v : Value} {l : List Int} {w : World} (h : Wr B b most over v l w) : v.ownBlock ≠ some b := by
  obtain ⟨hb, ho, _⟩ := h
  rcases ho.2 with ⟨rfl, _⟩ | ⟨g, cap, cur, rfl, _, hg, _⟩
  · simp [Value.ownBlock]
  · intro h
    simp only [Value.ownBlock, Option.some.injEq] at h
    subst h
    rw [hb] at hg
    injection hg with hg
    injection hg with _ h2
    exact absurd h2 (by decide)

/-- A Writer stands while a call turns neither its block nor its row. -/
theorem Wr.keep {B b : Nat} {most : Int} {over : Bool} {v : Value} {l : List Int} {w w' : World} (h : Wr B b most over v l w) {g : Nat} {row : Option Nat} (hk : KeepBut w w' g row) (h1 : b ≠ g) (h2 : some b ≠ row) (h3 : v.ownBlock ≠ some g) (h4 : v.ownBlock = none ∨ v.ownBlock ≠ row) : Wr B b most over v l w' := by
  obtain ⟨hb, ho, hB⟩ := h
  refine ⟨(hk.2 b (blk_lt hb) h1 h2).trans hb, ⟨ho.1, ?_⟩, hB⟩
  rcases ho.2 with h | ⟨g', cap, cur, rfl, hg0, hg, r⟩
  · exact .inl h
  · refine .inr ⟨g', cap, cur, rfl, hg0, ?_, r⟩
    have hlt := blk_lt hg
    rw [hk.2 g' hlt (fun e => h3 (by simp [Value.ownBlock, e])) ?_]
    · exact hg
    · rcases h4 with h | h
      · simp [Value.ownBlock] at h
      · exact fun e => h (by simp [Value.ownBlock] at e ⊢; exact e)

theorem own_keep {w w1 : World} {g base : Nat} {v : Value} {n : Nat} {xs : List Value} (h : KeepBut w w1 g none) (ho : w.ownsRow base 5 1 v n xs) (hg : v.ownBlock ≠ some g) : w1.ownsRow base 5 1 v n xs := by
  refine h.own ho hg ?_
  cases hv : v.ownBlock with
  | none => exact .inl rfl
  | some x => exact .inr (by simp)
theorem Wr.drewN {B b : Nat} {most : Int} {over : Bool} {v : Value} {l : List Int} {w : World} (h : Wr B b most over v l w) (n : Nat) : Wr B b most over v l (w.drewN n) := h

set_option maxHeartbeats 1000000 in
theorem put_some (B b : Nat) (most : Int) (over : Bool) (v : Value) (l : List Int) (A : Option Addr) (n c : Nat) (xs : List Int) (w : World) (h : Wr B b most over v l w) (hx : ReadsInt w .u8 A n xs) (hm : 0 ≤ most) (hm2 : most ≤ 9223372036854775807) (hl : l.length + xs.length ≤ 140737488355328) (hB : B ≤ w.heap.size) :
    Calls Try.prog 37 #[.pointer (some ⟨b, 0, none⟩), .slice A n c] w fun e w' => e = .returned (.tuple #[]) ∧ WPost B b most v (putP most over l xs) w w' := by
  obtain rfl := hx.1
  have hup := Try.underlying24
  have hu := Try.underlying68
  have HW := Lib.hid h
  obtain ⟨hb, ho, hBb⟩ := h
  have c0 : w.cell? ⟨b, 0, none⟩ = some (.int .i64 most) := (blk_cell hb _).trans rfl
  have c1 : w.cell? ⟨b, 1, none⟩ = some v := (blk_cell hb _).trans rfl
  have c2 : w.cell? ⟨b, 2, none⟩ = some (.bool over) := (blk_cell hb _).trans rfl
  have f1 : w.frozen? ⟨b, 1, none⟩ = false := blk_frozen hb 1
  have f2 : w.frozen? ⟨b, 2, none⟩ = false := blk_frozen hb 2
  obtain ⟨va, vn, vc, rfl, hvn⟩ : ∃ va vn vc, v = .slice va vn vc ∧ vn = l.length := by
    rcases ho.2 with ⟨rfl, h0⟩ | ⟨g, cap, cur, rfl, _⟩
    · exact ⟨_, _, _, rfl, h0.symm⟩
    · exact ⟨_, _, _, rfl, rfl⟩
  subst hvn
  have Hb := Lib.hid hb
  have Ho := Lib.hid ho
  have HX := Lib.hid hx
  clear hb ho hx
  cases over with
  | true =>
    go_enter Try.func37, Try.ntmps37
    go_wp2
    go_end0
    exact ⟨rfl, .slice va l.length vc, by simpa [putP] using HW.out, Below.refl _ _, KeepBut.refl _ _ _, .inl rfl⟩
  | false =>
    have hown : l.length ≤ 140737488355328 := by omega
    cases hd : decide (most - (l.length : Int) < (xs.length : Int)) with
    | true =>
      have Hd := Lib.hid hd
      go_enter Try.func37, Try.ntmps37
      go_wp2_with (go_quiet (fail))
      go_end0
      refine ⟨rfl, .slice va l.length vc, ?_, (pw_below_drewN (Below.refl B w) nq).setCell (p := ⟨b, 2, none⟩) hBb _, (keep_drewN (KeepBut.refl w b _) nq).set_ 2 _, .inl rfl⟩
      have hP : putP most false l xs = (true, l) := by simp only [putP, Bool.false_eq_true, if_false]; rw [if_pos (of_decide_eq_true Hd.out)]
      rw [hP]
      have hne := HW.out.own_ne
      exact ⟨(blk_set (w := w.drewN nq) Hb.out 2 (.bool true)).trans rfl, own_keep ((keep_drewN (KeepBut.refl w b none) nq).set_ 2 (.bool true)) Ho.out hne, hBb⟩
    | false =>
      have Hd := Lib.hid hd
      go_enter Try.func37, Try.ntmps37
      go_wp2_with (first | go_quiet (fail) | ((with_reducible refine gate_builtin (b := .append) (xs := #[.tmp 8, .tmp 9]) rfl ?_); at_builtin; refine print_append_row (w0 := w) B rfl (.tmp 8) (.tmp 9) 64 5 .u8 1 rfl Try.underlying64 infoByte (by decide) (.slice va l.length vc) l xs A xs.length c rfl rfl Ho.out HX.out (pw_below_drewN (Below.refl B w) _) hB (by omega) ?_))
      intro v1 w1 hown1 hb1 hg1 hat
      obtain ⟨ao, n', cap, rfl⟩ : ∃ ao n' cap, v1 = .slice ao n' cap := by
        rcases hown1.2 with ⟨hv, _⟩ | ⟨g, cap, cur, hv, _⟩
        · exact ⟨_, _, _, hv⟩
        · exact ⟨_, _, _, hv⟩
      have hne := HW.out.own_ne
      have hb2 := blk_grown (w := w.drewN nq) Hb.out hg1 (fun e => hne e.symm)
      have d0 : w1.cell? ⟨b, 0, none⟩ = some (.int .i64 most) := (blk_cell hb2 _).trans rfl
      have d1 : w1.cell? ⟨b, 1, none⟩ = some (.slice va l.length vc) := (blk_cell hb2 _).trans rfl
      have e1 : w1.frozen? ⟨b, 1, none⟩ = false := blk_frozen hb2 1
      have Hown1 := Lib.hid hown1
      have Hb1 := Lib.hid hb1
      have Hb2 := Lib.hid hb2
      have Hg1 := Lib.hid hg1
      have Hat := Lib.hid hat
      clear hown1 hb1 hg1 hat hb2
      go_wp2
      go_end0
      have hP : putP most false l xs = (false, l ++ xs) := by simp only [putP, Bool.false_eq_true, if_false]; rw [if_neg (of_decide_eq_false Hd.out)]
      rw [hP]
      have hk1 : KeepBut w w1 b (Value.slice va l.length vc).ownBlock := KeepBut.of_grown (w := w.drewN nq) Hg1.out b
      have hne1 : (Value.slice ao n' cap).ownBlock ≠ some b := by
        rcases Hat.out with e | ⟨q, e, hq⟩
        · rw [e]; exact hne
        · rw [e]; intro h; injection h with h; have := HW.out.lt; rw [h] at hq; exact absurd hq (Nat.not_le_of_lt this)
      exact ⟨rfl, .slice ao n' cap, ⟨(blk_set Hb2.out 1 (.slice ao n' cap)).trans rfl, own_keep ((KeepBut.refl w1 b none).set_ 1 (.slice ao n' cap)) (by have h := Hown1.out; rw [← List.length_append] at h; exact h) hne1, hBb⟩, Hb1.out.setCell (p := ⟨b, 1, none⟩) hBb _, hk1.set_ 1 _, Hat.out⟩

set_option maxHeartbeats 1000000 in
theorem put_nil (x : Value) (w : World) : Calls Try.prog 37 #[.pointer none, x] w fun e w' => e = .returned (.tuple #[]) ∧ w' = w := by
  have hup := Try.underlying24
  go_enter Try.func37, Try.ntmps37
  go_wp2
  go_end0
  exact ⟨rfl, rfl⟩

/-- What whatever is put leads to: put's own contract at a slice that holds these bytes. -/
def Puts (p : Value) (xs : List Int) (w : World) (Q : World → Prop) : Prop :=
  ∀ A n c w1, ReadsInt w1 .u8 A n xs → Below w.heap.size w w1 → Calls Try.prog 37 #[p, .slice A n c] w1 fun e w' => e = .returned (.tuple #[]) ∧ Q w'

theorem reads_of_R {w : World} {base : Nat} {ok : Nat → Prop} {v : Value} {xs : List Int} (h : Kd.R (Kd.int .u8) 5 w base ok v xs) : ∃ A c, v = .slice A xs.length c ∧ ReadsInt w .u8 A xs.length xs := by
  obtain ⟨A, c, he, _, hc⟩ := Kd.R_reads h
  exact ⟨A, c, he, Kd.reads_of_C (d := (0 : Int)) hc⟩

theorem reads_of_own {w : World} {base : Nat} {v : Value} {xs : List Int} (h : w.ownsRow base 5 1 v xs.length (nums .u8 xs)) : ∃ A c, v = .slice A xs.length c ∧ ReadsInt w .u8 A xs.length xs :=
  reads_of_R (ok := fun _ => True) (Kd.R_of_own h (fun _ _ => trivial))

set_option maxHeartbeats 1000000 in
theorem varint_put (p : Value) (k : Nat) (n : Int) (xs : List Int) (w : World) (hv : codec_varint.f k n = some xs) (Q : World → Prop) (hq : Puts p xs w Q) :
    Calls Try.prog 13 #[p, .int .u64 n] w fun e w' => e = .returned (.tuple #[]) ∧ Q w' := by
  have HQ := Lib.hid hq
  have HV := Lib.hid hv
  clear hq hv
  go_enter Try.func13, Try.ntmps13
  go_wp2_with (go_at_call 38; refine (codec_varint.calls k n xs _ HV.out).mono ?_)
  rintro e w1 ⟨v0, rfl, hR, hb⟩
  obtain ⟨A, c, rfl, hr⟩ := reads_of_R hR
  have Hr := Lib.hid hr
  have Hb := Lib.hid hb
  clear hR hr hb
  go_wp2_with (go_at_call 37; refine (HQ.out A _ c _ Hr.out Hb.out).mono ?_)
  rintro e w2 ⟨rfl, hQ⟩
  have HQ2 := Lib.hid hQ
  clear hQ
  go_wp2
  go_end0
  exact ⟨rfl, HQ2.out⟩

set_option maxHeartbeats 1000000 in
theorem raw_put (p : Value) (s : ByteArray) (w : World) (hs : s.size ≤ 9223372036854775807) (Q : World → Prop) (hq : Puts p (bytesOf s) w Q) :
    Calls Try.prog 49 #[p, .string s] w fun e w' => e = .returned (.tuple #[]) ∧ Q w' := by
  have HQ := Lib.hid hq
  have kb := print_bytes (P := Try.prog) 9 64 5 Try.underlying9 Try.underlying64 Try.underlying5 s w
  have Hr := Lib.hid (bytes_reads w 5 s hs)
  have Hb := Lib.hid (bytes_below (Below.refl w.heap.size w) (Nat.le_refl _) 5 s)
  clear hq
  generalize hW : Lib.bytesWorld w 5 s = W1 at kb Hr Hb
  clear hW
  go_enter Try.func49, Try.ntmps49
  go_wp2_with (go_at_call 37; refine (HQ.out _ _ _ _ Hr.out Hb.out).mono ?_)
  rintro e w2 ⟨rfl, hQ⟩
  have HQ2 := Lib.hid hQ
  clear hQ
  go_wp2
  go_end0
  exact ⟨rfl, HQ2.out⟩

set_option maxHeartbeats 1000000 in
theorem text_put (p : Value) (k : Nat) (s : ByteArray) (xs : List Int) (w : World) (hs : s.size ≤ 9223372036854775807) (hv : codec_varint.f k (s.size : Int) = some xs) (hl : xs.length + s.size ≤ 140737488355328) (Q : World → Prop) (hq : Puts p (xs ++ bytesOf s) w Q) :
    Calls Try.prog 36 #[p, .string s] w fun e w' => e = .returned (.tuple #[]) ∧ Q w' := by
  have HQ := Lib.hid hq
  have HV := Lib.hid hv
  have hw : IntKind.u64.wrap (s.size : Int) = (s.size : Int) := by
    show (s.size : Int) % 18446744073709551616 = _
    omega
  clear hq hv
  go_enter Try.func36, Try.ntmps36
  go_wp2_with (go_at_call 38; refine (codec_varint.calls k _ xs _ HV.out).mono ?_)
  rintro e w1 ⟨v0, rfl, hR, hb⟩
  have Ho := Lib.hid (Kd.own_of_R hR)
  have Hb := Lib.hid hb
  clear hR hb
  go_wp2_with ((with_reducible refine gate_builtin (b := .append) (xs := #[.tmp 8, .tmp 9]) rfl ?_); at_builtin; refine print_append_str (w0 := w) w.heap.size rfl (.tmp 8) (.tmp 9) 64 9 5 rfl Try.underlying64 Try.underlying9 infoByte v0 xs s rfl rfl Ho.out Hb.out Hb.out.size hl ?_)
  intro v1 w2 hown2 hb2 hg2
  rw [← List.length_append] at hown2
  obtain ⟨A, c, hv1, hr⟩ := reads_of_own hown2
  generalize (xs ++ bytesOf s).length = nn at hv1 hr
  subst hv1
  have Hr := Lib.hid hr
  have Hb2 := Lib.hid hb2
  clear hown2 hr hb2 hg2
  go_wp2_with (go_at_call 37; refine (HQ.out A _ c _ Hr.out Hb2.out).mono ?_)
  rintro e w3 ⟨rfl, hQ⟩
  have HQ2 := Lib.hid hQ
  clear hQ
  go_wp2
  go_end0
  exact ⟨rfl, HQ2.out⟩
end Go.Proofs.Ytjlohahknngmmaa
