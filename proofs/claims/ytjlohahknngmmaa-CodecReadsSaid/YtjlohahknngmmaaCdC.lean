/- Walks of the codec's Writer: NewWriter, Len, Done; of a nil one. -/
import Derived.Test.YtjlohahknngmmaaCdB
namespace Go.Proofs.Ytjlohahknngmmaa
open Go Go.RowKit Go.Proofs.YtjlohahknngmmaaW.PrintWords Go.Proofs.YtjlohahknngmmaaW.PrintMore Go.Proofs.YtjlohahknngmmaaW.PrintLast Go.Proofs.Ytjlohahknngmmaa.PC
set_option linter.unusedVariables false

attribute [local go_sem] max2_int min2_int max_two min_two max_three min_three max_four min_four
open Go.Proofs.YtjlohahknngmmaaW.PrintMore Go.Proofs.YtjlohahknngmmaaW.PrintLast in
set_option maxHeartbeats 1000000 in
theorem newWriter_any (most : Int) (B : Nat) (w : World) (hB : B ≤ w.heap.size) :
    Calls Try.prog 12 #[.int .i64 most] w fun e w' => ∃ b, e = .returned (.pointer (some ⟨b, 0, none⟩)) ∧ Wr B b (mx most 0) false (.slice none 0 0) [] w' ∧ Below w.heap.size w w' ∧ w.heap.size ≤ b := by
  have hu68 := Try.underlying68
  obtain ⟨m, hm⟩ : ∃ m : Int, mx most 0 = m := ⟨_, rfl⟩
  rw [hm]
  have hm2 : (if most < 0 then 0 else most) = m := hm
  clear hm
  go_enter Try.func12, Try.ntmps12
  go_wp2_with ((with_reducible refine gate_dst (N := 6) rfl ?_); refine box_event ?hg (N := 6) ?hd (cs := #[.int .i64 m, .slice none 0 0, .bool false]) (t := 68) ?hr ?_; (case hd => rfl); (case hg => rfl); (case hr => first | (go_simp; done) | (go_simp; rfl)); intro b hb w1 hbox hbel; have Hbox := Lib.hid hbox; have Hb := Lib.hid hb; have Hbel := Lib.hid hbel; clear hbox hb hbel)
  go_ret
  have hb := Hb.out
  subst hb
  exact ⟨_, rfl, ⟨Hbox.out, World.ownsRow_nil _ _ _ _, hB⟩, Hbel.out, Nat.le_refl _⟩

set_option maxHeartbeats 1000000 in
theorem len_some (B b : Nat) (most : Int) (over : Bool) (v : Value) (l : List Int) (w : World) (h : Wr B b most over v l w) :
    Calls Try.prog 22 #[.pointer (some ⟨b, 0, none⟩)] w fun e w' => e = .returned (.int .i64 (if over = true then 0 else l.length)) ∧ Drawn0 w w' := by
  have hup := Try.underlying24
  have hu := Try.underlying68
  obtain ⟨hb, ho, hBb⟩ := h
  have c1 : w.cell? ⟨b, 1, none⟩ = some v := (blk_cell hb _).trans rfl
  have c2 : w.cell? ⟨b, 2, none⟩ = some (.bool over) := (blk_cell hb _).trans rfl
  obtain ⟨va, vc, rfl⟩ : ∃ va vc, v = .slice va l.length vc := by
    rcases ho.2 with ⟨rfl, h0⟩ | ⟨g, cap, cur, rfl, _⟩
    · exact ⟨none, 0, by rw [h0]⟩
    · exact ⟨_, _, rfl⟩
  clear hb ho
  cases over with
  | true =>
    go_enter Try.func22, Try.ntmps22
    go_wp2
    go_ret
    exact ⟨rfl, Drawn0.refl _⟩
  | false =>
    go_enter Try.func22, Try.ntmps22
    go_wp2
    go_ret
    exact ⟨rfl, Drawn0.refl _⟩

def doneP (over : Bool) (l : List Int) : ByteArray × Int := if over = true then (⟨#[]⟩, 3) else (strOfNums l, 0)

set_option maxHeartbeats 1000000 in
theorem done_some (B b : Nat) (most : Int) (over : Bool) (v : Value) (l : List Int) (w : World) (h : Wr B b most over v l w) :
    Calls Try.prog 14 #[.pointer (some ⟨b, 0, none⟩)] w fun e w' => e = .returned (.tuple #[.string (doneP over l).1, .int .i64 (doneP over l).2]) ∧ Drawn0 w w' := by
  have hup := Try.underlying24
  have hu := Try.underlying68
  obtain ⟨hb, ho, hBb⟩ := h
  have c1 : w.cell? ⟨b, 1, none⟩ = some v := (blk_cell hb _).trans rfl
  have c2 : w.cell? ⟨b, 2, none⟩ = some (.bool over) := (blk_cell hb _).trans rfl
  obtain ⟨va, vc, rfl, hr⟩ := reads_of_own ho
  have Hr := Lib.hid hr
  clear hb ho hr
  cases over with
  | true =>
    go_enter Try.func14, Try.ntmps14
    go_wp2
    go_ret2
    exact ⟨rfl, Drawn0.refl _⟩
  | false =>
    have kc := string_of_reads (P := Try.prog) (c := vc) Try.underlying64 Try.underlying5 Try.underlying9 Hr.out
    go_enter Try.func14, Try.ntmps14
    go_wp2
    go_ret2
    exact ⟨rfl, Drawn0.refl _⟩
end Go.Proofs.Ytjlohahknngmmaa
