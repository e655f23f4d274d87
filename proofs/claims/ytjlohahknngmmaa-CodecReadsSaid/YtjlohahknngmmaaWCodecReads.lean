/- Walk: the law CodecReads. -/
import Derived.Test.YtjlohahknngmmaaStepR
import Derived.Test.YtjlohahknngmmaaRowOps
import Derived.Test.YtjlohahknngmmaaCdD
namespace Go.Proofs.Ytjlohahknngmmaa
open Go Go.RowKit Go.Proofs.YtjlohahknngmmaaW.PrintWords Go.Proofs.YtjlohahknngmmaaW.PrintMore Go.Proofs.YtjlohahknngmmaaW.PrintLast Go.Proofs.Ytjlohahknngmmaa.PC Go.Proofs.Ytjlohahknngmmaa.PureC
open Go.Proofs.Ytjlohahknngmmaa.PE (S41 k41 rd_T41 at_T41)
set_option linter.unusedVariables false
set_option linter.unusedSimpArgs false

theorem rd_mem (ops : List S41) (k : Nat) (h : k < ops.length) : rd_T41 ops (k : Int) ∈ ops := by
  unfold rd_T41
  rw [Int.toNat_natCast, List.getD_eq_getElem?_getD, List.getElem?_eq_getElem h]
  exact List.getElem_mem h

set_option maxHeartbeats 2000000 in
theorem reads_any (s : ByteArray) (A : Option Addr) (c : Nat) (ops : List S41) (w : World) (hs : s.size ≤ 140737488351232) (hC : Kd.C k41 w A ops.length ops) (hn : ∀ o ∈ ops, 0 ≤ o.f1 ∧ o.f1 ≤ 18446744073709551615) :
    Calls Try.prog 4 #[.string s, .slice A ops.length c] w fun e w' => e = .returned (.bool true) ∧ Below w.heap.size w w' := by
  have hu := Try.underlying41
  have hu2 := Try.underlying39
  have hup := Try.underlying30
  have hlen : ops.length ≤ 9223372036854775807 := by have := hC.2.1; unfold maxLen at this; omega
  have HN := Aside0.mk hn
  have HC := Aside0.mk hC
  clear hn hC
  go_enter Try.func4, Try.ntmps4
  go_wp2_with (go_at_call 15; refine (codec_NewReader.calls s s 0 w _ (Below.refl _ _) rfl).mono ?_)
  rintro e w1 ⟨g1, rfl, hI, hB, _⟩
  have HI1 := Aside0.mk hI
  have HB1 := Aside0.mk hB
  clear hI hB
  go_wp2_with (go_at_call 11; refine (awake_any _).mono ?_)
  rintro e w2 ⟨rfl, hb⟩
  have HI2 := Aside0.mk (HI1.out.below hb)
  have HB2 := Aside0.mk (HB1.out.trans (hb.mono HB1.out.size))
  clear hb HI1 HB1
  go_wp2
  have hX := IsS39.new w w2 s 0 HB2.out
  have HS : Aside0 (Steps w g1 w2.heap.size (w2.alloc (.cells #[.string s, .int .i64 0] 39 (0, 0)))) := ⟨⟨s, s, 0, HI2.out.alloc _, hX, ⟨fun _ => rfl, fun h => absurd rfl h⟩, by omega, by omega, below_alloc HB2.out _⟩⟩
  clear hX HI2 HB2
  generalize hg2 : w2.heap.size = g2 at *
  clear hg2
  generalize w2.alloc (.cells #[.string s, .int .i64 0] 39 (0, 0)) = w3 at *
  go_loopw [22] (fun i wr => ∃ k : Nat, k ≤ ops.length ∧ i = .int .i64 k ∧ Steps w g1 g2 wr) (fun i _ => ops.length - (intOf i).toNat)
  case atStart => exact ⟨0, Nat.zero_le _, rfl, HS.out⟩
  case round =>
    obtain ⟨k, hk, rfl, hS⟩ := hrel
    obtain ⟨s', l', e', hI, hX, hA, hs1, hs2, hB⟩ := hS
    by_cases hlt : k < ops.length
    · obtain ⟨ad, rfl, c0, c1, c2⟩ := at_T41 (Kd.C_below HC.out hB) (k : Int) (by omega) (by omega)
      obtain ⟨n0, n1⟩ := HN.out _ (rd_mem ops k hlt)
      generalize rd_T41 ops (k : Int) = o at *
      obtain ⟨kind, n, t⟩ := o
      dsimp only at n0 n1 c0 c1 c2
      rw [Int.toNat_natCast] at c0 c1 c2
      have HI := Aside0.mk hI
      have HX := Aside0.mk hX
      have HA := Aside0.mk hA
      have HB := Aside0.mk hB
      clear hI hX hA hB
      go_wp2_with (go_at_call 19; refine (step_any w g1 g2 s' l' e' kind n t _ n0 (by omega) (HI.out.alloc _) (HX.out.alloc _) HA.out hs1 hs2 (below_alloc HB.out _)).mono ?_)
      rintro e w4 ⟨rfl, hS⟩
      have HS4 := Aside0.mk hS
      clear hS
      go_wp2
      go_roundw
      case rel => exact ⟨k + 1, by omega, by go_num, HS4.out⟩
      case measure => simp [intOf]; omega
    · have HI := Aside0.mk hI
      have HX := Aside0.mk hX
      have HA := Aside0.mk hA
      have HB := Aside0.mk hB
      clear hI hX hA hB
      go_wp2_with (go_at_call 19; refine (step_any w g1 g2 s' l' e' 7 0 ⟨#[]⟩ _ (by decide) (by decide) HI.out HX.out HA.out hs1 hs2 HB.out).mono ?_)
      rintro e w4 ⟨rfl, hS⟩
      obtain ⟨s5, l5, e5, _, _, _, _, _, hB⟩ := hS
      have HB := Aside0.mk hB
      clear hB
      go_wp2
      go_ret
      exact ⟨rfl, HB.out⟩
end Go.Proofs.Ytjlohahknngmmaa
namespace Go.Proofs.Ytjlohahknngmmaa
open Go Go.Proofs.YtjlohahknngmmaaW.PrintWords
set_option linter.unusedVariables false in
theorem reads_walk (s : ByteArray) (A : Option Addr) (c : Nat) (ops : List PE.S41) (W : World) (w0 : s.size ≤ 140737488351232) (hC : Kd.C PE.k41 W A ops.length ops) (hL : ops.length ≤ c) (ho : ops.length * 32 ≤ 140737488351232 ∧ ∀ x ∈ ops, (Lit.int .i64 x.f0).wf = true ∧ (Lit.int .u64 x.f1).wf = true ∧ x.f2.size ≤ 140737488351232) :
    Calls Try.prog 4 #[.string s, .slice A ops.length c] W fun e w' => e = .returned (.bool true) ∧ Go.RowKit.Below W.heap.size W w' :=
  reads_any s A c ops W w0 hC fun o ho' => by simpa [Lit.wf, IntKind.min, IntKind.max, IntKind.signed, IntKind.bits] using (ho.2 o ho').2.1
end Go.Proofs.Ytjlohahknngmmaa
