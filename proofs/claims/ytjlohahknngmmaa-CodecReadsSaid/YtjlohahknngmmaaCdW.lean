/- Walks: write (one step of a Writer), of whatever Writer; and what a nil Writer and a nil Reader answer. Printed by cdw.py. -/
import Derived.Test.YtjlohahknngmmaaCdF
import Derived.Test.YtjlohahknngmmaaVarC
namespace Go.Proofs.Ytjlohahknngmmaa
open Go Go.RowKit Go.Proofs.YtjlohahknngmmaaW.PrintWords Go.Proofs.YtjlohahknngmmaaW.PrintMore Go.Proofs.YtjlohahknngmmaaW.PrintLast Go.Proofs.Ytjlohahknngmmaa.PC Go.Proofs.Ytjlohahknngmmaa.PureC
set_option linter.unusedVariables false
set_option linter.unusedSimpArgs false

theorem Puts.later {p : Value} {xs : List Int} {w w' : World} {Q : World → Prop} (h : Puts p xs w Q) (hb : Below w.heap.size w w') : Puts p xs w' Q :=
  fun A n c w1 hr hb1 => h A n c w1 hr (hb.trans (hb1.mono hb.size))

/-- The bytes that a step puts. -/
def opBytes (kind n : Int) (s : ByteArray) : List Int :=
  if kind = 0 then nb (n % 256) 1 else if kind = 1 then nb (n % 65536) 2 else if kind = 2 then nb (n % 4294967296) 4 else if kind = 3 then nb n 8 else if kind = 4 then vb 9 n else if kind = 5 then vb 9 (s.size : Int) ++ bytesOf s else if kind = 6 then bytesOf s else []

set_option maxHeartbeats 2000000 in
theorem write_any (p : Value) (kind n : Int) (s : ByteArray) (w : World) (h0 : 0 ≤ n) (h1 : n < 18446744073709551616) (hs : s.size ≤ 140737488351232) (Q : World → Prop) (hq : Puts p (opBytes kind n s) w Q) (hq2 : kind < 0 ∨ 6 < kind → ∀ w1, Below w.heap.size w w1 → Q w1) :
    Calls Try.prog 20 #[p, .agg #[.int .i64 kind, .int .u64 n, .string s]] w fun e w' => e = .returned (.tuple #[]) ∧ Q w' := by
  have hu := Try.underlying41
  have h16 : IntKind.u16.wrap n = n % 65536 := rfl
  have HB := Aside0.mk (below_alloc (Below.refl w.heap.size w) (.cells #[.int .i64 kind, .int .u64 n, .string s] 41))
  by_cases hk : kind < 0 ∨ 6 < kind
  · have HQ := Aside0.mk (hq2 hk)
    have k0 : (kind == 0) = false := beq_eq_false_iff_ne.mpr (by omega)
    have k1 : (kind == 1) = false := beq_eq_false_iff_ne.mpr (by omega)
    have k2 : (kind == 2) = false := beq_eq_false_iff_ne.mpr (by omega)
    have k3 : (kind == 3) = false := beq_eq_false_iff_ne.mpr (by omega)
    have k4 : (kind == 4) = false := beq_eq_false_iff_ne.mpr (by omega)
    have k5 : (kind == 5) = false := beq_eq_false_iff_ne.mpr (by omega)
    have k6 : (kind == 6) = false := beq_eq_false_iff_ne.mpr (by omega)
    clear hk hq hq2
    go_enter Try.func20, Try.ntmps20
    go_wp2
    go_end0
    exact ⟨rfl, HQ.out _ HB.out⟩
  · have hc : kind = 0 ∨ kind = 1 ∨ kind = 2 ∨ kind = 3 ∨ kind = 4 ∨ kind = 5 ∨ kind = 6 := by omega
    clear hk hq2
    rcases hc with rfl | rfl | rfl | rfl | rfl | rfl | rfl
    · have HQ := Aside0.mk (hq.later HB.out)
      clear hq
      go_enter Try.func20, Try.ntmps20
      go_wp2_with (go_at_call 45; refine (u8_put _ (n % 256) _ (by omega) (by omega) Q HQ.out).mono ?_)
      rintro e w2 ⟨rfl, hQ⟩
      have HQ2 := Aside0.mk hQ
      clear hQ
      go_wp2
      go_end0
      exact ⟨rfl, HQ2.out⟩
    · have HQ := Aside0.mk (hq.later HB.out)
      clear hq
      go_enter Try.func20, Try.ntmps20
      go_wp2_with (go_at_call 46; refine (u16_put _ (n % 65536) _ (by omega) (by omega) Q HQ.out).mono ?_)
      rintro e w2 ⟨rfl, hQ⟩
      have HQ2 := Aside0.mk hQ
      clear hQ
      go_wp2
      go_end0
      exact ⟨rfl, HQ2.out⟩
    · have HQ := Aside0.mk (hq.later HB.out)
      clear hq
      go_enter Try.func20, Try.ntmps20
      go_wp2_with (go_at_call 47; refine (u32_put _ (n % 4294967296) _ (by omega) (by omega) Q HQ.out).mono ?_)
      rintro e w2 ⟨rfl, hQ⟩
      have HQ2 := Aside0.mk hQ
      clear hQ
      go_wp2
      go_end0
      exact ⟨rfl, HQ2.out⟩
    · have HQ := Aside0.mk (hq.later HB.out)
      clear hq
      go_enter Try.func20, Try.ntmps20
      go_wp2_with (go_at_call 48; refine (u64_put _ n _ h0 (by omega) Q HQ.out).mono ?_)
      rintro e w2 ⟨rfl, hQ⟩
      have HQ2 := Aside0.mk hQ
      clear hQ
      go_wp2
      go_end0
      exact ⟨rfl, HQ2.out⟩
    · have HQ := Aside0.mk (hq.later HB.out)
      clear hq
      go_enter Try.func20, Try.ntmps20
      go_wp2_with (go_at_call 13; refine (varint_put _ 10 n _ _ (varint_eq n h0 h1) Q HQ.out).mono ?_)
      rintro e w2 ⟨rfl, hQ⟩
      have HQ2 := Aside0.mk hQ
      clear hQ
      go_wp2
      go_end0
      exact ⟨rfl, HQ2.out⟩
    · have HQ := Aside0.mk (hq.later HB.out)
      clear hq
      go_enter Try.func20, Try.ntmps20
      go_wp2_with (go_at_call 36; refine (text_put _ 10 s _ _ (by omega) (varint_eq (s.size : Int) (by omega) (by omega)) (by have := vb_len 9 (s.size : Int); omega) Q HQ.out).mono ?_)
      rintro e w2 ⟨rfl, hQ⟩
      have HQ2 := Aside0.mk hQ
      clear hQ
      go_wp2
      go_end0
      exact ⟨rfl, HQ2.out⟩
    · have HQ := Aside0.mk (hq.later HB.out)
      clear hq
      go_enter Try.func20, Try.ntmps20
      go_wp2_with (go_at_call 49; refine (raw_put _ s _ (by omega) Q HQ.out).mono ?_)
      rintro e w2 ⟨rfl, hQ⟩
      have HQ2 := Aside0.mk hQ
      clear hQ
      go_wp2
      go_end0
      exact ⟨rfl, HQ2.out⟩

/-! ### Nobody -/
theorem puts_nil (xs : List Int) (w : World) : Puts (.pointer none) xs w (fun w2 => Below w.heap.size w w2) := by
  intro A n c w1 hr hb
  refine (put_nil _ w1).mono ?_
  rintro e w2 ⟨rfl, rfl⟩
  exact ⟨rfl, hb⟩
theorem write_nil (kind n : Int) (s : ByteArray) (w : World) (h0 : 0 ≤ n) (h1 : n < 18446744073709551616) (hs : s.size ≤ 140737488351232) :
    Calls Try.prog 20 #[.pointer none, .agg #[.int .i64 kind, .int .u64 n, .string s]] w fun e w' => e = .returned (.tuple #[]) ∧ Below w.heap.size w w' :=
  write_any _ kind n s w h0 h1 hs _ (puts_nil _ w) (fun _ w1 h => h)
set_option maxHeartbeats 1000000 in
theorem len_nil (w : World) : Calls Try.prog 22 #[.pointer none] w fun e w' => e = .returned (.int .i64 0) ∧ w' = w := by
  have hup := Try.underlying24
  go_enter Try.func22, Try.ntmps22
  go_wp2
  go_ret
  exact ⟨rfl, rfl⟩
set_option maxHeartbeats 1000000 in
theorem done_nil (w : World) : Calls Try.prog 14 #[.pointer none] w fun e w' => e = .returned (.tuple #[.string ⟨#[]⟩, .int .i64 6]) ∧ w' = w := by
  have hup := Try.underlying24
  go_enter Try.func14, Try.ntmps14
  go_wp2
  go_ret2
  exact ⟨rfl, rfl⟩
set_option maxHeartbeats 1000000 in
theorem rerr_nil (w : World) : Calls Try.prog 18 #[.pointer none] w fun e w' => e = .returned (.int .i64 6) ∧ w' = w := by
  have hup := Try.underlying30
  go_enter Try.func18, Try.ntmps18
  go_wp2
  go_ret
  exact ⟨rfl, rfl⟩
set_option maxHeartbeats 1000000 in
theorem left_nil (w : World) : Calls Try.prog 17 #[.pointer none] w fun e w' => e = .returned (.int .i64 0) ∧ w' = w := by
  have hup := Try.underlying30
  go_enter Try.func17, Try.ntmps17
  go_wp2
  go_ret
  exact ⟨rfl, rfl⟩
set_option maxHeartbeats 1000000 in
theorem rraw_nil (n : Int) (w : World) : Calls Try.prog 28 #[.pointer none, .int .i64 n] w fun e w' => e = .returned (.string ⟨#[]⟩) ∧ w' = w := by
  have hup := Try.underlying30
  go_enter Try.func28, Try.ntmps28
  go_wp2
  go_ret
  exact ⟨rfl, rfl⟩
set_option maxHeartbeats 1000000 in
theorem rvarint_nil (w : World) : Calls Try.prog 16 #[.pointer none] w fun e w' => e = .returned (.int .u64 0) ∧ w' = w := by
  have hup := Try.underlying30
  go_enter Try.func16, Try.ntmps16
  go_wp2
  go_ret
  exact ⟨rfl, rfl⟩
set_option maxHeartbeats 1000000 in
theorem rdone_nil (w : World) : Calls Try.prog 29 #[.pointer none] w fun e w' => e = .returned (.int .i64 6) ∧ Below w.heap.size w w' := by
  have hup := Try.underlying30
  go_enter Try.func29, Try.ntmps29
  go_wp2_with (go_at_call 18; refine (rerr_nil _).mono ?_)
  rintro e w1 ⟨rfl, hw⟩
  go_wp2
  go_ret
  first | exact ⟨rfl, hw⟩ | (subst hw; exact ⟨rfl, Below.refl _ _⟩)
set_option maxHeartbeats 1000000 in
theorem rtext_nil (w : World) : Calls Try.prog 27 #[.pointer none] w fun e w' => e = .returned (.string ⟨#[]⟩) ∧ Below w.heap.size w w' := by
  have hup := Try.underlying30
  go_enter Try.func27, Try.ntmps27
  go_wp2_with (go_at_call 16; refine (rvarint_nil _).mono ?_)
  rintro e w1 ⟨rfl, hw⟩
  go_wp2
  go_ret
  first | exact ⟨rfl, hw⟩ | (subst hw; exact ⟨rfl, Below.refl _ _⟩)
set_option maxHeartbeats 1000000 in
theorem read_nil (n : Int) (w : World) : Calls Try.prog 53 #[.pointer none, .int .i64 n] w fun e w' => e = .returned (.int .u64 0) ∧ Below w.heap.size w w' := by
  have hup := Try.underlying30
  have kb := print_bytes (P := Try.prog) 9 64 5 Try.underlying9 Try.underlying64 Try.underlying5 ⟨#[]⟩ w
  have Hb := Aside0.mk (bytes_below (Below.refl w.heap.size w) (Nat.le_refl _) 5 ⟨#[]⟩)
  generalize Lib.bytesWorld w 5 ⟨#[]⟩ = W1 at kb Hb
  rw [show (⟨#[]⟩ : ByteArray).size = 0 from rfl] at kb
  go_enter Try.func53, Try.ntmps53
  go_wp2_with (go_at_call 28; refine (rraw_nil n _).mono ?_)
  rintro e w1 ⟨rfl, hw⟩
  subst hw
  go_wp2
  go_loopw [5, 13] (fun nv iv wr => nv = .int .u64 0 ∧ iv = .int .i64 0 ∧ wr = W1) (fun _ _ _ => 0)
  case atStart => exact ⟨rfl, rfl, rfl⟩
  case round =>
    obtain ⟨rfl, rfl, rfl⟩ := hrel
    go_wp2
    go_ret
    exact ⟨rfl, Hb.out⟩
set_option maxHeartbeats 1000000 in
theorem ru8_nil (w : World) : Calls Try.prog 23 #[.pointer none] w fun e w' => e = .returned (.int .u8 0) ∧ Below w.heap.size w w' := by
  have hup := Try.underlying30
  go_enter Try.func23, Try.ntmps23
  go_wp2_with (go_at_call 53; refine (read_nil 1 _).mono ?_)
  rintro e w1 ⟨rfl, hw⟩
  go_wp2
  go_ret
  first | exact ⟨rfl, hw⟩ | (subst hw; exact ⟨rfl, Below.refl _ _⟩)
set_option maxHeartbeats 1000000 in
theorem ru16_nil (w : World) : Calls Try.prog 24 #[.pointer none] w fun e w' => e = .returned (.int .u16 0) ∧ Below w.heap.size w w' := by
  have hup := Try.underlying30
  go_enter Try.func24, Try.ntmps24
  go_wp2_with (go_at_call 53; refine (read_nil 2 _).mono ?_)
  rintro e w1 ⟨rfl, hw⟩
  go_wp2
  go_ret
  first | exact ⟨rfl, hw⟩ | (subst hw; exact ⟨rfl, Below.refl _ _⟩)
set_option maxHeartbeats 1000000 in
theorem ru32_nil (w : World) : Calls Try.prog 25 #[.pointer none] w fun e w' => e = .returned (.int .u32 0) ∧ Below w.heap.size w w' := by
  have hup := Try.underlying30
  go_enter Try.func25, Try.ntmps25
  go_wp2_with (go_at_call 53; refine (read_nil 4 _).mono ?_)
  rintro e w1 ⟨rfl, hw⟩
  go_wp2
  go_ret
  first | exact ⟨rfl, hw⟩ | (subst hw; exact ⟨rfl, Below.refl _ _⟩)
set_option maxHeartbeats 1000000 in
theorem ru64_nil (w : World) : Calls Try.prog 26 #[.pointer none] w fun e w' => e = .returned (.int .u64 0) ∧ Below w.heap.size w w' := by
  have hup := Try.underlying30
  go_enter Try.func26, Try.ntmps26
  go_wp2_with (go_at_call 53; refine (read_nil 8 _).mono ?_)
  rintro e w1 ⟨rfl, hw⟩
  go_wp2
  go_ret
  first | exact ⟨rfl, hw⟩ | (subst hw; exact ⟨rfl, Below.refl _ _⟩)
end Go.Proofs.Ytjlohahknngmmaa
