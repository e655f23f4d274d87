/- Walks of the text package's functions that range over a string: Decode, Count, Digits. -/
import Derived.Test.YtkekkabelnmlnaaProg
import Derived.Test.YtkekkabelnmlnaaRn
import Derived.Test.YtkekkabelnmlnaaShelf
import Derived.WalkKit
import Derived.KernelRfl
import Derived.Lib.OthersKept
import Derived.Lib.Hide
namespace Go.Proofs.Ytkekkabelnmlnaa
open Go Go.RowKit
set_option linter.unusedVariables false

theorem iter0 (w : World) (s : ByteArray) : (w.iter s 0).heap[w.heap.size]? = some (.stringIter s 0) := World.iter_heap w s 0

theorem isEmpty_of (s : ByteArray) (h : s.size = 0) : s.toList.isEmpty = true := by
  have : s.data.toList.length = 0 := by rw [Array.length_toList]; exact h
  rw [ByteArray.toList_eq, List.eq_nil_of_length_eq_zero this]; rfl
theorem isEmpty_not (s : ByteArray) (h : ¬ s.size = 0) : s.toList.isEmpty = false := by
  have : s.data.toList.length ≠ 0 := by rw [Array.length_toList]; exact h
  rw [ByteArray.toList_eq]
  cases hl : s.data.toList with
  | nil => simp [hl] at this
  | cons a l => rfl
theorem pos_of {w : World} {k : Nat} {s : ByteArray} {p : Nat} (h : w.heap[k]? = some (.stringIter s p)) : w.iterPos k = p := by simp only [World.iterPos, h]

set_option maxHeartbeats 1000000 in
/-- Decode: the first rune and its size. -/
theorem decode_any (s : ByteArray) (w : World) :
    Calls Try.prog 16 #[.string s] w fun e w' =>
      e = .returned (.tuple #[.int .i32 (if s.size = 0 then 0 else ((Utf8.decode s 0).1 : Int)), .int .i64 (if s.size = 0 then 0 else ((Utf8.decode s 0).2 : Int))]) ∧ Below w.heap.size w w' := by
  go_enter Try.func16, Try.ntmps16
  go_wp2
  go_loopw [2] (fun r wr => ∃ pos : Nat, wr.heap[w.heap.size]? = some (.stringIter s pos) ∧ Below w.heap.size w wr ∧ ((pos = 0 ∧ r = .int .i32 0) ∨ (0 < s.size ∧ pos = (Utf8.decode s 0).2 ∧ 1 ≤ pos ∧ pos ≤ s.size ∧ r = .int .i32 (Utf8.decode s 0).1))) (fun _ wr => s.size - wr.iterPos w.heap.size)
  case atStart => exact ⟨0, iter0 w s, (Below.refl _ w).alloc (Nat.le_refl _) _, .inl ⟨rfl, rfl⟩⟩
  case round =>
    obtain ⟨pos, hit, hb, hc⟩ := hrel
    by_cases hp : pos < s.size
    · have hnx : ∀ ty, (Instr.next (.pointer (some ⟨w.heap.size, 0, none⟩)) true ty).run Try.prog wr = _ := fun ty => Lib.run_next_any_at wr w.heap.size s pos ty hit hp
      have hit2 := Lib.iterAt_heap wr w.heap.size s pos (pos + (Utf8.decode s pos).2) hit
      have hb2 := Lib.below_iterAt hb (k := w.heap.size) (Nat.le_refl _) s (pos + (Utf8.decode s pos).2)
      have hd := dec_pos s pos hp
      have hps := pos_of hit
      have hps2 := pos_of hit2
      have hf := dec_fits s pos hp
      rcases hc with ⟨rfl, rfl⟩ | ⟨h0, rfl, h1, h2, rfl⟩
      · clear hit
        simp only [Nat.zero_add] at hit2 hb2 hf hps2
        have Hps := Lib.hid hps
        have Hps2 := Lib.hid hps2
        clear hps hps2
        go_wp2
        go_roundw
        case rel => exact ⟨(Utf8.decode s 0).2, hit2, hb2, .inr ⟨by omega, rfl, by omega, by omega, rfl⟩⟩
        case measure =>
          rw [Hps.out, Hps2.out]
          omega
      · clear hit hps hps2
        have hne : s.size ≠ 0 := by omega
        go_wp2
        go_ret2
        exact ⟨rfl, hb2⟩
    · have hnx : ∀ ty, (Instr.next (.pointer (some ⟨w.heap.size, 0, none⟩)) true ty).run Try.prog wr = _ := fun ty => Lib.run_next_end_at wr w.heap.size s pos ty hit hp
      rcases hc with ⟨rfl, rfl⟩ | ⟨h0, rfl, h1, h2, rfl⟩
      · have h0 : s.size = 0 := by omega
        have he : s.toList.isEmpty = true := isEmpty_of s h0
        go_wp2
        go_ret2
        exact ⟨rfl, hb⟩
      · have hne : ¬ s.size = 0 := by omega
        have he : s.toList.isEmpty = false := isEmpty_not s hne
        have hsz : Hid (s.size = (Utf8.decode s 0).2) := by show _ = _; omega
        go_wp2
        go_ret2
        refine ⟨?_, hb⟩
        show Ending.returned (.tuple #[.int .i32 _, .int .i64 (s.size : Int)]) = _
        rw [← hsz.out]

set_option maxHeartbeats 1000000 in
/-- Count: how many runes. -/
theorem count_any (s : ByteArray) (w : World) (hs : s.size ≤ 9223372036854775807) :
    Calls Try.prog 17 #[.string s] w fun e w' => e = .returned (.int .i64 (rn s).length) ∧ Below w.heap.size w w' := by
  go_enter Try.func17, Try.ntmps17
  go_wp2
  go_loopw [3] (fun r wr => ∃ (pos n f : Nat), wr.heap[w.heap.size]? = some (.stringIter s pos) ∧ Below w.heap.size w wr ∧ n ≤ pos ∧ s.size ≤ pos + f ∧ pos ≤ s.size ∧ Hid (n + (rnFrom s f pos).length = (rn s).length) ∧ r = .int .i64 n) (fun _ wr => s.size - wr.iterPos w.heap.size)
  case atStart => exact ⟨0, 0, s.size, iter0 w s, (Below.refl _ w).alloc (Nat.le_refl _) _, Nat.le_refl _, by omega, by omega, by show _ = _; rw [Nat.zero_add]; rfl, rfl⟩
  case round =>
    obtain ⟨pos, n, f, hit, hb, hn, hf, hps, hlen, rfl⟩ := hrel
    have Hps := Lib.hid (pos_of hit)
    by_cases hp : pos < s.size
    · have hnx : ∀ ty, (Instr.next (.pointer (some ⟨w.heap.size, 0, none⟩)) true ty).run Try.prog wr = _ := fun ty => Lib.run_next_any_at wr w.heap.size s pos ty hit hp
      have hit2 := Lib.iterAt_heap wr w.heap.size s pos (pos + (Utf8.decode s pos).2) hit
      have hb2 := Lib.below_iterAt hb (k := w.heap.size) (Nat.le_refl _) s (pos + (Utf8.decode s pos).2)
      have hd := dec_pos s pos hp
      have hfit := dec_fits s pos hp
      have Hps2 := Lib.hid (pos_of hit2)
      obtain ⟨f, rfl⟩ : ∃ m, f = m + 1 := ⟨f - 1, by omega⟩
      have Hl : Hid ((rnFrom s (f + 1) pos).length = 1 + (rnFrom s f (pos + (Utf8.decode s pos).2)).length) := by
        show _ = _
        simp only [rnFrom, hp, if_true, List.length_cons]; omega
      clear hit
      go_wp2
      go_roundw
      case rel => exact ⟨_, n + 1, f, hit2, hb2, by omega, by omega, by omega, by have := Hl.out; have := hlen.out; show _ = _; omega, by go_num⟩
      case measure =>
        rw [Hps.out, Hps2.out]
        omega
    · have hnx : ∀ ty, (Instr.next (.pointer (some ⟨w.heap.size, 0, none⟩)) true ty).run Try.prog wr = _ := fun ty => Lib.run_next_end_at wr w.heap.size s pos ty hit hp
      have Hl := Lib.hid (rnFrom_end s f pos hp)
      go_wp2
      go_ret
      refine ⟨?_, hb⟩
      have h1 := hlen.out
      rw [Hl.out] at h1
      rw [← h1]; rfl

set_option maxHeartbeats 1000000 in
/-- Encode: a rune's UTF-8, or 150. -/
theorem encode_any (r : Int) (w : World) :
    Calls Try.prog 27 #[.int .i32 r] w fun e w' => e = .returned (.tuple (if Lib.validRune r = true then #[.string (Utf8.encode r), .int .i64 0] else #[.string ⟨#[]⟩, .int .i64 150])) ∧ w' = w := by
  cases hv : Lib.validRune r with
  | true =>
    go_enter Try.func27, Try.ntmps27
    go_wp2_with (go_at_call 43; refine (Try.utf8_ValidRune _ _).mono ?_; rintro e w' ⟨rfl, rfl⟩; rw [hv])
    go_ret2
    exact ⟨rfl, rfl⟩
  | false =>
    go_enter Try.func27, Try.ntmps27
    go_wp2_with (go_at_call 43; refine (Try.utf8_ValidRune _ _).mono ?_; rintro e w' ⟨rfl, rfl⟩; rw [hv])
    go_ret2
    exact ⟨rfl, rfl⟩
end Go.Proofs.Ytkekkabelnmlnaa
