/- The check sum of the program's Writers' part. -/
import Derived.Test.YtjlohahknngmmaaPCx
import Derived.Test.YtjlohahknngmmaaCrcQ
namespace Go.Proofs.Ytjlohahknngmmaa.PureC
set_option linter.unusedVariables false
open Go Go.RowKit Go.Proofs.Ytjlohahknngmmaa Go.Proofs.Ytjlohahknngmmaa.PC Go.Proofs.Ytjlohahknngmmaa.PureQ Go.Proofs.YtjlohahknngmmaaW.PrintWords Go.Proofs.YtjlohahknngmmaaW.PrintLast

/-- The program's round over one byte: 8 turns. -/
theorem codec_turns (s : ByteArray) (n6 n7 : Int) (r : Int) (d : Nat) : ∀ (i : Nat) (x : Int), i + d = 8 → 0 ≤ x → x < 4294967296 →
    Ev (fun k => codec_Crc.l0 k s (steps d x) n6 (wrap64 (n7 + 1))) r → Ev (fun k => codec_Crc.l1 k s x n6 n7 (i : Int)) r := by
  induction d with
  | zero =>
    intro i x hi h0 h1 k
    exact Ev.step (fun k => by simp only [codec_Crc.l1]; exact rfl) (evIfNeg (by omega) k)
  | succ d ih =>
    intro i x hi h0 h1 k
    refine Ev.step (fun k => by simp only [codec_Crc.l1]; exact rfl) (evIfPos (by omega) ?_)
    rw [stepC x h0 h1, wrap64_succ (by omega)]
    exact ih (i + 1) _ (by omega) (stepR_range x h0 h1).1 (stepR_range x h0 h1).2 k
theorem codec_loop (s : ByteArray) (hs : s.size < 9223372036854775807) (d : Nat) : ∀ (i : Nat), i + d = s.size → Ev (fun k => codec_Crc.l0 k s ((s.data.toList.take i).foldl crcByte 4294967295) (s.size : Int) (i : Int)) (crcOf s.data.toList) := by
  have hl : s.data.toList.length = s.size := Array.length_toList
  induction d with
  | zero =>
    intro i hi
    refine Ev.step (fun k => by simp only [codec_Crc.l0]; exact rfl) (evIfNeg (by omega) ?_)
    rw [List.take_of_length_le (by omega), xor_comm]
    exact Ev.now _
  | succ d ih =>
    intro i hi
    obtain ⟨b, hb, ht, _⟩ := bt_nat' s i (by omega)
    have h1 := ih (i + 1) (by omega)
    rw [ht, List.foldl_append] at h1
    have hr := fold_range (s.data.toList.take i) 4294967295 (by decide) (by decide)
    generalize (s.data.toList.take i).foldl crcByte 4294967295 = x at *
    have hb256 := b.toNat_lt
    refine Ev.step (fun k => by simp only [codec_Crc.l0]; exact rfl) (evIfPos (by omega) (evIfPos (by omega) (evIfPos (by omega) ?_)))
    rw [hb, show ((b.toNat : Int)) % 4294967296 = (b.toNat : Int) by omega]
    refine codec_turns s _ _ _ 8 0 _ rfl (xor_range _ _).1 (xor_range _ _).2 ?_
    rw [wrap64_succ (by omega)]
    exact h1
theorem codec_crc (s : ByteArray) (hs : s.size < 9223372036854775807) : Ev (fun k => codec_Crc.f k s) (crcOf s.data.toList) := by
  have h := codec_loop s hs s.size 0 (by omega)
  exact h
end Go.Proofs.Ytjlohahknngmmaa.PureC
