/- Walks of the codec's Writer: put over a row of its own, and what leads to it. -/
import Derived.Test.YtehnpmkfgdmmmaaProg
import Derived.Test.YtehnpmkfgdmmmaaWWords
import Derived.Test.YtehnpmkfgdmmmaaPCx0
import Derived.WalkKit
import Derived.KernelRfl
import Derived.Lib.Hide
import Derived.Laws.IdiomStrings
import Derived.BigQuiet
import Derived.RowKit3
namespace Go.Proofs.Ytehnpmkfgdmmmaa
open Go Go.RowKit Go.Proofs.YtehnpmkfgdmmmaaW.PrintWords Go.Proofs.Ytehnpmkfgdmmmaa.PC
set_option linter.unusedVariables false
set_option linter.unusedSimpArgs false

theorem infoByteC : (Try.prog.info? 5).map (fun i => (i.zero, i.size, i.bytes)) = some (some (.int .u8 0), 1, 1) := by kernel_rfl

/-- A Writer in block b, its bytes l in a row of its own. -/
def Wr (B b : Nat) (most : Int) (over : Bool) (v : Value) (l : List Int) (w : World) : Prop :=
  w.heap[b]? = some (.cells #[.int .i64 most, v, .bool over] 67 (0, 0)) ∧ w.ownsRow B 5 1 v l.length (nums .u8 l) ∧ B ≤ b

/-- What a call on a Writer leaves. -/
def WPost (B b : Nat) (most : Int) (v : Value) (p : Bool × List Int) (w w' : World) : Prop :=
  ∃ v', Wr B b most p.1 v' p.2 w' ∧ Below B w w' ∧ KeepBut w w' b v.ownBlock ∧ (v'.ownBlock = v.ownBlock ∨ ∃ c, v'.ownBlock = some c ∧ w.heap.size ≤ c)

def putP (most : Int) (over : Bool) (l xs : List Int) : Bool × List Int :=
  if over = true then (true, l) else if most - l.length < xs.length then (true, l) else (false, l ++ xs)

theorem Wr.lt {B b : Nat} {most : Int} {over : Bool} {v : Value} {l : List Int} {w : World} (h : Wr B b most over v l w) : b < w.heap.size := blk_lt h.1
theorem Wr.own_ne {B b : Nat} {most : Int} {over : Bool} {v : Value} {l : List Int} {w : World} (h : Wr B b most over v l w) : v.ownBlock ≠ some b := by
  obtain ⟨hb, ho, _⟩ := h
  rcases ho.2 with ⟨rfl, _⟩ | ⟨g, cap, cur, rfl, _, hg, _⟩
  · simp [Value.ownBlock]
  · intro h
    simp only [Value.ownBlock, Option.some.injEq] at h
    subst h
    rw [hb] at hg
    injection hg with hg
    injection hg with _ h2
    exact absurd h2 (by decide)

/-- A Writer stands while a call turns neither its block nor its row. -/
theorem Wr.keep {B b : Nat} {most : Int} {over : Bool} {v : Value} {l : List Int} {w w' : World} (h : Wr B b most over v l w) {g : Nat} {row : Option Nat} (hk : KeepBut w w' g row) (h1 : b ≠ g) (h2 : some b ≠ row) (h3 : v.ownBlock ≠ some g) (h4 : v.ownBlock = none ∨ v.ownBlock ≠ row) : Wr B b most over v l w' := by
  obtain ⟨hb, ho, hB⟩ := h
  refine ⟨(hk.2 b (blk_lt hb) h1 h2).trans hb, ⟨ho.1, ?_⟩, hB⟩
  rcases ho.2 with h | ⟨g', cap, cur, rfl, hg0, hg, r⟩
  · exact .inl h
  · refine .inr ⟨g', cap, cur, rfl, hg0, ?_, r⟩
    have hlt := blk_lt hg
    rw [hk.2 g' hlt (fun e => h3 (by simp [Value.ownBlock, e])) ?_]
    · exact hg
    · rcases h4 with h | h
      · simp [Value.ownBlock] at h
      · exact fun e => h (by simp [Value.ownBlock] at e ⊢; exact e)

theorem own_keep {w w1 : World} {g base : Nat} {v : Value} {n : Nat} {xs : List Value} (h : KeepBut w w1 g none) (ho : w.ownsRow base 5 1 v n xs) (hg : v.ownBlock ≠ some g) : w1.ownsRow base 5 1 v n xs := by
  refine h.own ho hg ?_
  cases hv : v.ownBlock with
  | none => exact .inl rfl
  | some x => exact .inr (by simp)
theorem Wr.drewN {B b : Nat} {most : Int} {over : Bool} {v : Value} {l : List Int} {w : World} (h : Wr B b most over v l w) (n : Nat) : Wr B b most over v l (w.drewN n) := h

set_option maxHeartbeats 1000000 in
set_option maxRecDepth 100000 in
theorem put_some (B b : Nat) (most : Int) (over : Bool) (v : Value) (l : List Int) (A : Option Addr) (n c : Nat) (xs : List Int) (w : World) (h : Wr B b most over v l w) (hx : ReadsInt w .u8 A n xs) (hm : 0 ≤ most) (hm2 : most ≤ 9223372036854775807) (hl : l.length + xs.length ≤ 140737488355328) (hB : B ≤ w.heap.size) :
    Calls Try.prog 62 #[.pointer (some ⟨b, 0, none⟩), .slice A n c] w fun e w' => e = .returned (.tuple #[]) ∧ WPost B b most v (putP most over l xs) w w' := by
  obtain rfl := hx.1
  have hup := Try.underlying52
  have hu := Try.underlying67
  have HW := Lib.hid h
  obtain ⟨hb, ho, hBb⟩ := h
  have c0 : w.cell? ⟨b, 0, none⟩ = some (.int .i64 most) := (blk_cell hb _).trans rfl
  have c1 : w.cell? ⟨b, 1, none⟩ = some v := (blk_cell hb _).trans rfl
  have c2 : w.cell? ⟨b, 2, none⟩ = some (.bool over) := (blk_cell hb _).trans rfl
  have f1 : w.frozen? ⟨b, 1, none⟩ = false := blk_frozen hb 1
  have f2 : w.frozen? ⟨b, 2, none⟩ = false := blk_frozen hb 2
  obtain ⟨va, vn, vc, rfl, hvn⟩ : ∃ va vn vc, v = .slice va vn vc ∧ vn = l.length := by
    rcases ho.2 with ⟨rfl, h0⟩ | ⟨g, cap, cur, rfl, _⟩
    · exact ⟨_, _, _, rfl, h0.symm⟩
    · exact ⟨_, _, _, rfl, rfl⟩
  subst hvn
  have Hb := Lib.hid hb
  have Ho := Lib.hid ho
  have HX := Lib.hid hx
  clear hb ho hx
  cases over with
  | true =>
    go_enter Try.func62, Try.ntmps62
    go_wp2
    go_end0
    exact ⟨rfl, .slice va l.length vc, by simpa [putP] using HW.out, Below.refl _ _, KeepBut.refl _ _ _, .inl rfl⟩
  | false =>
    have hown : l.length ≤ 140737488355328 := by omega
    cases hd : decide (most - (l.length : Int) < (xs.length : Int)) with
    | true =>
      have Hd := Lib.hid hd
      go_enter Try.func62, Try.ntmps62
      go_wp2_with (go_quiet (fail))
      go_end0
      refine ⟨rfl, .slice va l.length vc, ?_, (pw_below_drewN (Below.refl B w) nq).setCell (p := ⟨b, 2, none⟩) hBb _, (keep_drewN (KeepBut.refl w b _) nq).set_ 2 _, .inl rfl⟩
      have hP : putP most false l xs = (true, l) := by simp only [putP, Bool.false_eq_true, if_false]; rw [if_pos (of_decide_eq_true Hd.out)]
      rw [hP]
      have hne := HW.out.own_ne
      exact ⟨(blk_set (w := w.drewN nq) Hb.out 2 (.bool true)).trans rfl, own_keep ((keep_drewN (KeepBut.refl w b none) nq).set_ 2 (.bool true)) Ho.out hne, hBb⟩
    | false =>
      have Hd := Lib.hid hd
      go_enter Try.func62, Try.ntmps62
      go_wp2_with (first | go_quiet (fail) | ((with_reducible refine gate_builtin (b := .append) (xs := #[.tmp 8, .tmp 9]) rfl ?_); at_builtin; refine print_append_row (w0 := w) B rfl (.tmp 8) (.tmp 9) 37 5 .u8 1 rfl Try.underlying37 infoByteC (by decide) (.slice va l.length vc) l xs A xs.length c rfl rfl Ho.out HX.out (pw_below_drewN (Below.refl B w) _) hB (by omega) ?_))
      intro v1 w1 hown1 hb1 hg1 hat
      obtain ⟨ao, n', cap, rfl⟩ : ∃ ao n' cap, v1 = .slice ao n' cap := by
        rcases hown1.2 with ⟨hv, _⟩ | ⟨g, cap, cur, hv, _⟩
        · exact ⟨_, _, _, hv⟩
        · exact ⟨_, _, _, hv⟩
      have hne := HW.out.own_ne
      have hb2 := blk_grown (w := w.drewN nq) Hb.out hg1 (fun e => hne e.symm)
      have d0 : w1.cell? ⟨b, 0, none⟩ = some (.int .i64 most) := (blk_cell hb2 _).trans rfl
      have d1 : w1.cell? ⟨b, 1, none⟩ = some (.slice va l.length vc) := (blk_cell hb2 _).trans rfl
      have e1 : w1.frozen? ⟨b, 1, none⟩ = false := blk_frozen hb2 1
      have Hown1 := Lib.hid hown1
      have Hb1 := Lib.hid hb1
      have Hb2 := Lib.hid hb2
      have Hg1 := Lib.hid hg1
      have Hat := Lib.hid hat
      clear hown1 hb1 hg1 hat hb2
      go_wp2
      go_end0
      have hP : putP most false l xs = (false, l ++ xs) := by simp only [putP, Bool.false_eq_true, if_false]; rw [if_neg (of_decide_eq_false Hd.out)]
      rw [hP]
      have hk1 : KeepBut w w1 b (Value.slice va l.length vc).ownBlock := KeepBut.of_grown (w := w.drewN nq) Hg1.out b
      have hne1 : (Value.slice ao n' cap).ownBlock ≠ some b := by
        rcases Hat.out with e | ⟨q, e, hq⟩
        · rw [e]; exact hne
        · rw [e]; intro h; injection h with h; have := HW.out.lt; rw [h] at hq; exact absurd hq (Nat.not_le_of_lt this)
      exact ⟨rfl, .slice ao n' cap, ⟨(blk_set Hb2.out 1 (.slice ao n' cap)).trans rfl, own_keep ((KeepBut.refl w1 b none).set_ 1 (.slice ao n' cap)) (by have h := Hown1.out; rw [← List.length_append] at h; exact h) hne1, hBb⟩, Hb1.out.setCell (p := ⟨b, 1, none⟩) hBb _, hk1.set_ 1 _, Hat.out⟩

set_option maxHeartbeats 1000000 in
set_option maxRecDepth 100000 in
theorem put_nil (x : Value) (w : World) : Calls Try.prog 62 #[.pointer none, x] w fun e w' => e = .returned (.tuple #[]) ∧ w' = w := by
  have hup := Try.underlying52
  go_enter Try.func62, Try.ntmps62
  go_wp2
  go_end0
  exact ⟨rfl, rfl⟩

/-- What whatever is put leads to: put's own contract at a slice that holds these bytes. -/
def Puts (p : Value) (xs : List Int) (w : World) (Q : World → Prop) : Prop :=
  ∀ A n c w1, ReadsInt w1 .u8 A n xs → Below w.heap.size w w1 → Calls Try.prog 62 #[p, .slice A n c] w1 fun e w' => e = .returned (.tuple #[]) ∧ Q w'

theorem reads_of_R {w : World} {base : Nat} {ok : Nat → Prop} {v : Value} {xs : List Int} (h : Kd.R (Kd.int .u8) 5 w base ok v xs) : ∃ A c, v = .slice A xs.length c ∧ ReadsInt w .u8 A xs.length xs := by
  obtain ⟨A, c, he, _, hc⟩ := Kd.R_reads h
  exact ⟨A, c, he, Kd.reads_of_C (d := (0 : Int)) hc⟩

theorem reads_of_own {w : World} {base : Nat} {v : Value} {xs : List Int} (h : w.ownsRow base 5 1 v xs.length (nums .u8 xs)) : ∃ A c, v = .slice A xs.length c ∧ ReadsInt w .u8 A xs.length xs :=
  reads_of_R (ok := fun _ => True) (Kd.R_of_own h (fun _ _ => trivial))

end Go.Proofs.Ytehnpmkfgdmmmaa
/- Walks of the codec's Writer: numbers of 1, 2, 4 and 8 bytes. Printed by cdb.py. -/
namespace Go.Proofs.Ytehnpmkfgdmmmaa
open Go Go.RowKit Go.Proofs.YtehnpmkfgdmmmaaW.PrintWords Go.Proofs.Ytehnpmkfgdmmmaa.PC
set_option linter.unusedVariables false
set_option linter.unusedSimpArgs false

/-- n in so many bytes, the highest first. -/
def nb (n : Int) : Nat → List Int
  | 0 => []
  | k + 1 => nb (n / 256) k ++ [n % 256]
theorem nb_length (n : Int) (k : Nat) : (nb n k).length = k := by
  induction k generalizing n with
  | zero => rfl
  | succ k ih => simp [nb, ih]
theorem nb_step (n m : Int) (z i : Nat) (sfx : List Int) (hi : i < z) (h : nb n z = nb m (z - i) ++ sfx) : nb n z = nb (m / 16 / 16) (z - (i + 1)) ++ (m % 256 :: sfx) := by
  rw [h, show z - i = z - (i + 1) + 1 by omega, nb, show m / 16 / 16 = m / 256 by omega]
  simp
theorem set_rep (m : Nat) (x : Int) (sfx : List Int) : (List.replicate (m + 1) (0 : Int) ++ sfx).set m x = List.replicate m 0 ++ (x :: sfx) := by
  rw [List.replicate_succ', List.append_assoc]
  rw [List.set_append]
  simp

set_option maxHeartbeats 1000000 in
set_option maxRecDepth 100000 in
theorem number_u64 (p : Value) (n : Int) (w : World) (h0 : 0 ≤ n) (hn : n ≤ 18446744073709551615) (Q : World → Prop) (hq : Puts p (nb n 8) w Q) :
    Calls Try.prog 50 #[p, .int .u64 n, .int .i64 8] w fun e w' => e = .returned (.tuple #[]) ∧ Q w' := by
  have HQ := Lib.hid hq
  clear hq
  have km : (Instr.makeSlice 37 (.int .i64 8) (.int .i64 8)).run Try.prog w = _ := print_make (P := Try.prog) 37 5 .u8 1 Try.underlying37 infoByteC (by decide) 8 (by decide) w
  have Hmade := Lib.hid (own_made w w.heap.size 5 .u8 8 (Nat.le_refl _) (by decide))
  have Hb0 := Lib.hid (below_alloc (Below.refl w.heap.size w) (.cells (madeCells #[.int .u8 0] 8) 5))
  generalize w.alloc (.cells (madeCells #[.int .u8 0] 8) 5) = W0 at km Hmade Hb0
  generalize hB : w.heap.size = B at km Hmade
  have HB := Lib.hid hB
  clear hB
  go_enter Try.func50, Try.ntmps50
  go_wp2
  go_loopw [1, 12] (fun nv iv wr => ∃ (i : Nat) (m : Int) (sfx : List Int), i ≤ 8 ∧ sfx.length = i ∧ 0 ≤ m ∧ m ≤ 18446744073709551615 ∧ nv = .int .u64 m ∧ iv = .int .i64 i ∧ Hid (nb n 8 = nb m (8 - i) ++ sfx) ∧ Hid (Kd.R (Kd.int .u8) 5 wr B (fun _ => True) (.slice (some ⟨B, 0, none⟩) 8 8) (List.replicate (8 - i) 0 ++ sfx)) ∧ Hid (Below w.heap.size w wr)) (fun _ iv _ => 8 - (intOf iv).toNat)
  case atStart => exact ⟨0, n, [], by omega, rfl, h0, hn, rfl, rfl, by show _ = _; simp, Kd.R_of_own (enc := Value.int .u8) (xs := List.replicate 8 0 ++ []) (by have h := Hmade.out; rw [List.append_nil]; exact h) (fun _ _ => trivial), Hb0.out⟩
  case round =>
    obtain ⟨i, m, sfx, hi, hsl, hm0, hm1, rfl, rfl, Hn, HR, Hb⟩ := hrel
    by_cases hp : i < 8
    · have hc := Kd.R_celln (0 : Int) HR.out (((8 - 1 - i : Nat) : Int)) (by omega) (by omega)
      have Hput := Lib.hid (Kd.R_putn HR.out (((8 - 1 - i : Nat) : Int)) (m % 256))
      have Hset := Lib.hid (set_rep (8 - 1 - i) (m % 256) sfx)
      simp only [Int.toNat_natCast] at hc
      have hc1 := hc.1
      have hc2 := hc.2
      clear hc
      have Hn2 := Lib.hid (nb_step n m 8 i sfx (by omega) Hn.out)
      go_wp2
      go_roundw
      case rel =>
        refine ⟨i + 1, m / 16 / 16, (m % 256) :: sfx, by omega, by simp [hsl], by omega, by omega, rfl, by go_num, Hn2.out, ?_, Hb.out.setCell (p := ⟨B, _, none⟩) (by rw [HB.out]; exact Nat.le_refl _) _⟩
        have h := Hput.out
        rw [show 8 - i = 8 - 1 - i + 1 by omega] at h
        simp only [Int.toNat_natCast, Hset.out] at h
        rw [show 8 - (i + 1) = 8 - 1 - i by omega]
        exact h
      case measure => simp [intOf] <;> omega
    · obtain rfl : i = 8 := by omega
      have hr : ReadsInt wr .u8 (some ⟨B, 0, none⟩) 8 (nb n 8) := by
        have h1 := Hn.out
        have h2 := HR.out
        simp only [Nat.sub_self, nb, List.nil_append, List.replicate_zero] at h1 h2
        rw [show nb n 8 = sfx from h1]
        obtain ⟨A, c, he, _, hc⟩ := Kd.R_reads h2
        injection he with e1 e2 e3
        subst e1
        rw [hsl] at hc
        exact Kd.reads_of_C (d := (0 : Int)) hc
      have Hr := Lib.hid hr
      clear hr
      go_wp2_with (go_at_call 62; refine (HQ.out _ _ _ _ Hr.out Hb.out).mono ?_)
      rintro e w2 ⟨rfl, hQ⟩
      have HQ2 := Lib.hid hQ
      clear hQ
      go_wp2
      go_end0
      exact ⟨rfl, HQ2.out⟩

set_option maxHeartbeats 1000000 in
set_option maxRecDepth 100000 in
theorem u64_put (p : Value) (n : Int) (w : World) (h0 : 0 ≤ n) (hn : n ≤ 18446744073709551615) (Q : World → Prop) (hq : Puts p (nb n 8) w Q) :
    Calls Try.prog 34 #[p, .int .u64 n] w fun e w' => e = .returned (.tuple #[]) ∧ Q w' := by
  have HQ := Lib.hid hq
  clear hq
  go_enter Try.func34, Try.ntmps34
  go_wp2_with (go_at_call 50; refine (number_u64 p n _ h0 hn Q HQ.out).mono ?_)
  rintro e w2 ⟨rfl, hQ⟩
  have HQ2 := Lib.hid hQ
  clear hQ
  go_wp2
  go_end0
  exact ⟨rfl, HQ2.out⟩

end Go.Proofs.Ytehnpmkfgdmmmaa
/- Walks of the codec's Writer: NewWriter, Len, Done; of a nil one. -/
namespace Go.Proofs.Ytehnpmkfgdmmmaa
open Go Go.RowKit Go.Proofs.YtehnpmkfgdmmmaaW.PrintWords Go.Proofs.YtehnpmkfgdmmmaaW.PrintMore Go.Proofs.YtehnpmkfgdmmmaaW.PrintLast Go.Proofs.Ytehnpmkfgdmmmaa.PC
set_option linter.unusedVariables false
set_option linter.unusedSimpArgs false

attribute [local go_sem] max2_int min2_int max_two min_two max_three min_three max_four min_four
open Go.Proofs.YtehnpmkfgdmmmaaW.PrintMore Go.Proofs.YtehnpmkfgdmmmaaW.PrintLast in
set_option maxHeartbeats 1000000 in
set_option maxRecDepth 100000 in
theorem newWriter_any (most : Int) (B : Nat) (w : World) (hB : B ≤ w.heap.size) :
    Calls Try.prog 33 #[.int .i64 most] w fun e w' => ∃ b, e = .returned (.pointer (some ⟨b, 0, none⟩)) ∧ Wr B b (mx most 0) false (.slice none 0 0) [] w' ∧ Below w.heap.size w w' ∧ w.heap.size ≤ b := by
  have hu68 := Try.underlying67
  obtain ⟨m, hm⟩ : ∃ m : Int, mx most 0 = m := ⟨_, rfl⟩
  rw [hm]
  have hm2 : (if most < 0 then 0 else most) = m := hm
  clear hm
  go_enter Try.func33, Try.ntmps33
  go_wp2_with ((with_reducible refine gate_dst (N := 6) rfl ?_); refine box_event ?hg (N := 6) ?hd (cs := #[.int .i64 m, .slice none 0 0, .bool false]) (t := 67) ?hr ?_; (case hd => rfl); (case hg => rfl); (case hr => first | (go_simp; done) | (go_simp; rfl)); intro b hb w1 hbox hbel; have Hbox := Lib.hid hbox; have Hb := Lib.hid hb; have Hbel := Lib.hid hbel; clear hbox hb hbel)
  go_ret
  have hb := Hb.out
  subst hb
  exact ⟨_, rfl, ⟨Hbox.out, World.ownsRow_nil _ _ _ _, hB⟩, Hbel.out, Nat.le_refl _⟩

def doneP (over : Bool) (l : List Int) : ByteArray × Int := if over = true then (⟨#[]⟩, 3) else (strOfNums l, 0)

set_option maxHeartbeats 1000000 in
set_option maxRecDepth 100000 in
theorem done_some (B b : Nat) (most : Int) (over : Bool) (v : Value) (l : List Int) (w : World) (h : Wr B b most over v l w) :
    Calls Try.prog 35 #[.pointer (some ⟨b, 0, none⟩)] w fun e w' => e = .returned (.tuple #[.string (doneP over l).1, .int .i64 (doneP over l).2]) ∧ Drawn0 w w' := by
  have hup := Try.underlying52
  have hu := Try.underlying67
  obtain ⟨hb, ho, hBb⟩ := h
  have c1 : w.cell? ⟨b, 1, none⟩ = some v := (blk_cell hb _).trans rfl
  have c2 : w.cell? ⟨b, 2, none⟩ = some (.bool over) := (blk_cell hb _).trans rfl
  obtain ⟨va, vc, rfl, hr⟩ := reads_of_own ho
  have Hr := Lib.hid hr
  clear hb ho hr
  cases over with
  | true =>
    go_enter Try.func35, Try.ntmps35
    go_wp2
    go_ret2
    exact ⟨rfl, Drawn0.refl _⟩
  | false =>
    have kc := string_of_reads (P := Try.prog) (c := vc) Try.underlying37 Try.underlying5 Try.underlying9 Hr.out
    go_enter Try.func35, Try.ntmps35
    go_wp2
    go_ret2
    exact ⟨rfl, Drawn0.refl _⟩
end Go.Proofs.Ytehnpmkfgdmmmaa
