/- Walk: the law CodecNobody. -/
import Derived.Test.YtjlohahknngmmaaCdW
namespace Go.Proofs.Ytjlohahknngmmaa
open Go Go.RowKit Go.Proofs.YtjlohahknngmmaaW.PrintWords Go.Proofs.YtjlohahknngmmaaW.PrintMore Go.Proofs.YtjlohahknngmmaaW.PrintLast Go.Proofs.Ytjlohahknngmmaa.PC Go.Proofs.Ytjlohahknngmmaa.PureC
set_option linter.unusedVariables false
set_option linter.unusedSimpArgs false

set_option maxHeartbeats 2000000 in
theorem nobody_any (kind n : Int) (s : ByteArray) (w : World) (h0 : 0 ≤ n) (h1 : n < 18446744073709551616) (hs : s.size ≤ 140737488351232) :
    Calls Try.prog 8 #[.agg #[.int .i64 kind, .int .u64 n, .string s]] w fun e w' => e = .returned (.bool true) ∧ Below w.heap.size w w' := by
  have hu := Try.underlying41
  have hup := Try.underlying24
  have hup2 := Try.underlying30
  go_enter Try.func8, Try.ntmps8
  have HA := Aside0.mk (below_alloc (Below.refl w.heap.size w) (.cells #[.int .i64 kind, .int .u64 n, .string s] 41))
  have HC := Aside0.mk (blk_new w (.cells #[.int .i64 kind, .int .u64 n, .string s] 41 (0, 0)))
  go_wp2_with (go_at_call 20; refine (write_nil kind n s _ h0 h1 hs).mono ?_)
  rintro e w1 ⟨rfl, hw⟩
  have HB1 := Aside0.mk hw
  clear hw
  go_wp2_with (go_at_call 14; refine (done_nil _).mono ?_)
  rintro e w' ⟨rfl, hw⟩
  subst hw
  go_wp2_with (go_at_call 11; refine (awake_any _).mono ?_)
  rintro e w2 ⟨rfl, hw⟩
  have HB2 := Aside0.mk (HB1.out.trans (hw.mono HB1.out.size))
  clear hw HB1
  go_wp2_with (go_at_call 22; refine (len_nil _).mono ?_)
  rintro e w' ⟨rfl, hw⟩
  subst hw
  go_wp2_with (go_at_call 23; refine (ru8_nil _).mono ?_)
  rintro e w3 ⟨rfl, hw⟩
  have HB3 := Aside0.mk (HB2.out.trans (hw.mono HB2.out.size))
  clear hw HB2
  go_wp2_with (go_at_call 24; refine (ru16_nil _).mono ?_)
  rintro e w4 ⟨rfl, hw⟩
  have HB4 := Aside0.mk (HB3.out.trans (hw.mono HB3.out.size))
  clear hw HB3
  go_wp2_with (go_at_call 25; refine (ru32_nil _).mono ?_)
  rintro e w5 ⟨rfl, hw⟩
  have HB5 := Aside0.mk (HB4.out.trans (hw.mono HB4.out.size))
  clear hw HB4
  go_wp2_with (go_at_call 26; refine (ru64_nil _).mono ?_)
  rintro e w6 ⟨rfl, hw⟩
  have HB6 := Aside0.mk (HB5.out.trans (hw.mono HB5.out.size))
  clear hw HB5
  go_wp2_with (go_at_call 16; refine (rvarint_nil _).mono ?_)
  rintro e w' ⟨rfl, hw⟩
  subst hw
  go_wp2_with (go_at_call 27; refine (rtext_nil _).mono ?_)
  rintro e w7 ⟨rfl, hw⟩
  have HB7 := Aside0.mk (HB6.out.trans (hw.mono HB6.out.size))
  clear hw HB6
  have hc1 : w7.cell? ⟨w.heap.size, 1, none⟩ = some (.int .u64 n) := by
    have hb : w7.heap[w.heap.size]? = some (.cells #[.int .i64 kind, .int .u64 n, .string s] 41 (0, 0)) := (HB7.out.block w.heap.size (blk_lt HC.out)).trans HC.out
    exact (blk_cell hb _).trans rfl
  go_wp2_with (go_at_call 28; refine (rraw_nil _ _).mono ?_)
  rintro e w' ⟨rfl, hw⟩
  subst hw
  go_wp2_with (go_at_call 17; refine (left_nil _).mono ?_)
  rintro e w' ⟨rfl, hw⟩
  subst hw
  go_wp2_with (go_at_call 18; refine (rerr_nil _).mono ?_)
  rintro e w' ⟨rfl, hw⟩
  subst hw
  go_wp2_with (go_at_call 29; refine (rdone_nil _).mono ?_)
  rintro e w8 ⟨rfl, hw⟩
  have HB8 := Aside0.mk (HB7.out.trans (hw.mono HB7.out.size))
  clear hw HB7
  go_wp2
  go_ret
  exact ⟨rfl, HA.out.trans (HB8.out.mono HA.out.size)⟩
end Go.Proofs.Ytjlohahknngmmaa
namespace Go.Proofs.Ytjlohahknngmmaa
open Go
set_option linter.unusedVariables false in
theorem nobody_walk (kind n : Int) (s : ByteArray) (W : World) (w0 : (Lit.int .i64 kind).wf = true) (w1 : (Lit.int .u64 n).wf = true) (w2 : s.size ≤ 140737488351232) :
    Calls Try.prog 8 #[.agg #[.int .i64 kind, .int .u64 n, .string s]] W fun e w' => e = .returned (.bool true) ∧ Go.RowKit.Below W.heap.size W w' := by
  have h : 0 ≤ n ∧ n ≤ 18446744073709551615 := by simpa [Lit.wf, IntKind.min, IntKind.max, IntKind.signed, IntKind.bits] using w1
  exact nobody_any kind n s W h.1 (by omega) w2
end Go.Proofs.Ytjlohahknngmmaa
