/- Walks of the codec's Writer: numbers of 1, 2, 4 and 8 bytes. Printed by cdb.py. -/
import Derived.Test.YtjlohahknngmmaaCdA
namespace Go.Proofs.Ytjlohahknngmmaa
open Go Go.RowKit Go.Proofs.YtjlohahknngmmaaW.PrintWords Go.Proofs.Ytjlohahknngmmaa.PC
set_option linter.unusedVariables false

/-- n in so many bytes, the highest first. -/
def nb (n : Int) : Nat → List Int
  | 0 => []
  | k + 1 => nb (n / 256) k ++ [n % 256]
theorem nb_length (n : Int) (k : Nat) : (nb n k).length = k := by
  induction k generalizing n with
  | zero => rfl
  | succ k ih => simp [nb, ih]
theorem nb_step (n m : Int) (z i : Nat) (sfx : List Int) (hi : i < z) (h : nb n z = nb m (z - i) ++ sfx) : nb n z = nb (m / 16 / 16) (z - (i + 1)) ++ (m % 256 :: sfx) := by
  rw [h, show z - i = z - (i + 1) + 1 by omega, nb, show m / 16 / 16 = m / 256 by omega]
  simp
theorem set_rep (m : Nat) (x : Int) (sfx : List Int) : (List.replicate (m + 1) (0 : Int) ++ sfx).set m x = List.replicate m 0 ++ (x :: sfx) := by
  rw [List.replicate_succ', List.append_assoc]
  rw [List.set_append]
  simp

set_option maxHeartbeats 1000000 in
theorem number_u8 (p : Value) (n : Int) (w : World) (h0 : 0 ≤ n) (hn : n ≤ 255) (Q : World → Prop) (hq : Puts p (nb n 1) w Q) :
    Calls Try.prog 56 #[p, .int .u8 n, .int .i64 1] w fun e w' => e = .returned (.tuple #[]) ∧ Q w' := by
  have HQ := Lib.hid hq
  clear hq
  have km : (Instr.makeSlice 64 (.int .i64 1) (.int .i64 1)).run Try.prog w = _ := print_make (P := Try.prog) 64 5 .u8 1 Try.underlying64 infoByte (by decide) 1 (by decide) w
  have Hmade := Lib.hid (own_made w w.heap.size 5 .u8 1 (Nat.le_refl _) (by decide))
  have Hb0 := Lib.hid (below_alloc (Below.refl w.heap.size w) (.cells (madeCells #[.int .u8 0] 1) 5))
  generalize w.alloc (.cells (madeCells #[.int .u8 0] 1) 5) = W0 at km Hmade Hb0
  generalize hB : w.heap.size = B at km Hmade
  have HB := Lib.hid hB
  clear hB
  go_enter Try.func56, Try.ntmps56
  go_wp2
  go_loopw [1, 12] (fun nv iv wr => ∃ (i : Nat) (m : Int) (sfx : List Int), i ≤ 1 ∧ sfx.length = i ∧ 0 ≤ m ∧ m ≤ 255 ∧ nv = .int .u8 m ∧ iv = .int .i64 i ∧ Hid (nb n 1 = nb m (1 - i) ++ sfx) ∧ Hid (Kd.R (Kd.int .u8) 5 wr B (fun _ => True) (.slice (some ⟨B, 0, none⟩) 1 1) (List.replicate (1 - i) 0 ++ sfx)) ∧ Hid (Below w.heap.size w wr)) (fun _ iv _ => 1 - (intOf iv).toNat)
  case atStart => exact ⟨0, n, [], by omega, rfl, h0, hn, rfl, rfl, by show _ = _; simp, Kd.R_of_own (enc := Value.int .u8) (xs := List.replicate 1 0 ++ []) (by have h := Hmade.out; rw [List.append_nil]; exact h) (fun _ _ => trivial), Hb0.out⟩
  case round =>
    obtain ⟨i, m, sfx, hi, hsl, hm0, hm1, rfl, rfl, Hn, HR, Hb⟩ := hrel
    by_cases hp : i < 1
    · obtain rfl : i = 0 := by omega
      have hc := Kd.R_celln (0 : Int) HR.out (((1 - 1 - 0 : Nat) : Int)) (by omega) (by omega)
      have Hput := Lib.hid (Kd.R_putn HR.out (((1 - 1 - 0 : Nat) : Int)) (m % 256))
      have Hset := Lib.hid (set_rep (1 - 1 - 0) (m % 256) sfx)
      simp only [Int.toNat_natCast] at hc
      have hc1 := hc.1
      have hc2 := hc.2
      clear hc
      have Hn2 := Lib.hid (nb_step n m 1 0 sfx (by omega) Hn.out)
      go_wp2
      go_roundw
      case rel =>
        refine ⟨0 + 1, m / 16 / 16, (m % 256) :: sfx, by omega, by simp [hsl], by omega, by omega, rfl, by go_num, Hn2.out, ?_, Hb.out.setCell (p := ⟨B, _, none⟩) (by rw [HB.out]; exact Nat.le_refl _) _⟩
        have h := Hput.out
        rw [show 1 - 0 = 1 - 1 - 0 + 1 by omega] at h
        simp only [Int.toNat_natCast, Hset.out] at h
        rw [show 1 - (0 + 1) = 1 - 1 - 0 by omega]
        have hmm : m % 256 = m := by omega
        rw [hmm] at h ⊢
        exact h
      case measure => simp [intOf] <;> omega
    · obtain rfl : i = 1 := by omega
      have hr : ReadsInt wr .u8 (some ⟨B, 0, none⟩) 1 (nb n 1) := by
        have h1 := Hn.out
        have h2 := HR.out
        simp only [Nat.sub_self, nb, List.nil_append, List.replicate_zero] at h1 h2
        rw [show nb n 1 = sfx from h1]
        obtain ⟨A, c, he, _, hc⟩ := Kd.R_reads h2
        injection he with e1 e2 e3
        subst e1
        rw [hsl] at hc
        exact Kd.reads_of_C (d := (0 : Int)) hc
      have Hr := Lib.hid hr
      clear hr
      go_wp2_with (go_at_call 37; refine (HQ.out _ _ _ _ Hr.out Hb.out).mono ?_)
      rintro e w2 ⟨rfl, hQ⟩
      have HQ2 := Lib.hid hQ
      clear hQ
      go_wp2
      go_end0
      exact ⟨rfl, HQ2.out⟩

set_option maxHeartbeats 1000000 in
theorem u8_put (p : Value) (n : Int) (w : World) (h0 : 0 ≤ n) (hn : n ≤ 255) (Q : World → Prop) (hq : Puts p (nb n 1) w Q) :
    Calls Try.prog 45 #[p, .int .u8 n] w fun e w' => e = .returned (.tuple #[]) ∧ Q w' := by
  have HQ := Lib.hid hq
  clear hq
  go_enter Try.func45, Try.ntmps45
  go_wp2_with (go_at_call 56; refine (number_u8 p n _ h0 hn Q HQ.out).mono ?_)
  rintro e w2 ⟨rfl, hQ⟩
  have HQ2 := Lib.hid hQ
  clear hQ
  go_wp2
  go_end0
  exact ⟨rfl, HQ2.out⟩

set_option maxHeartbeats 1000000 in
theorem number_u16 (p : Value) (n : Int) (w : World) (h0 : 0 ≤ n) (hn : n ≤ 65535) (Q : World → Prop) (hq : Puts p (nb n 2) w Q) :
    Calls Try.prog 57 #[p, .int .u16 n, .int .i64 2] w fun e w' => e = .returned (.tuple #[]) ∧ Q w' := by
  have HQ := Lib.hid hq
  clear hq
  have km : (Instr.makeSlice 64 (.int .i64 2) (.int .i64 2)).run Try.prog w = _ := print_make (P := Try.prog) 64 5 .u8 1 Try.underlying64 infoByte (by decide) 2 (by decide) w
  have Hmade := Lib.hid (own_made w w.heap.size 5 .u8 2 (Nat.le_refl _) (by decide))
  have Hb0 := Lib.hid (below_alloc (Below.refl w.heap.size w) (.cells (madeCells #[.int .u8 0] 2) 5))
  generalize w.alloc (.cells (madeCells #[.int .u8 0] 2) 5) = W0 at km Hmade Hb0
  generalize hB : w.heap.size = B at km Hmade
  have HB := Lib.hid hB
  clear hB
  go_enter Try.func57, Try.ntmps57
  go_wp2
  go_loopw [1, 12] (fun nv iv wr => ∃ (i : Nat) (m : Int) (sfx : List Int), i ≤ 2 ∧ sfx.length = i ∧ 0 ≤ m ∧ m ≤ 65535 ∧ nv = .int .u16 m ∧ iv = .int .i64 i ∧ Hid (nb n 2 = nb m (2 - i) ++ sfx) ∧ Hid (Kd.R (Kd.int .u8) 5 wr B (fun _ => True) (.slice (some ⟨B, 0, none⟩) 2 2) (List.replicate (2 - i) 0 ++ sfx)) ∧ Hid (Below w.heap.size w wr)) (fun _ iv _ => 2 - (intOf iv).toNat)
  case atStart => exact ⟨0, n, [], by omega, rfl, h0, hn, rfl, rfl, by show _ = _; simp, Kd.R_of_own (enc := Value.int .u8) (xs := List.replicate 2 0 ++ []) (by have h := Hmade.out; rw [List.append_nil]; exact h) (fun _ _ => trivial), Hb0.out⟩
  case round =>
    obtain ⟨i, m, sfx, hi, hsl, hm0, hm1, rfl, rfl, Hn, HR, Hb⟩ := hrel
    by_cases hp : i < 2
    · have hc := Kd.R_celln (0 : Int) HR.out (((2 - 1 - i : Nat) : Int)) (by omega) (by omega)
      have Hput := Lib.hid (Kd.R_putn HR.out (((2 - 1 - i : Nat) : Int)) (m % 256))
      have Hset := Lib.hid (set_rep (2 - 1 - i) (m % 256) sfx)
      simp only [Int.toNat_natCast] at hc
      have hc1 := hc.1
      have hc2 := hc.2
      clear hc
      have Hn2 := Lib.hid (nb_step n m 2 i sfx (by omega) Hn.out)
      go_wp2
      go_roundw
      case rel =>
        refine ⟨i + 1, m / 16 / 16, (m % 256) :: sfx, by omega, by simp [hsl], by omega, by omega, rfl, by go_num, Hn2.out, ?_, Hb.out.setCell (p := ⟨B, _, none⟩) (by rw [HB.out]; exact Nat.le_refl _) _⟩
        have h := Hput.out
        rw [show 2 - i = 2 - 1 - i + 1 by omega] at h
        simp only [Int.toNat_natCast, Hset.out] at h
        rw [show 2 - (i + 1) = 2 - 1 - i by omega]
        exact h
      case measure => simp [intOf] <;> omega
    · obtain rfl : i = 2 := by omega
      have hr : ReadsInt wr .u8 (some ⟨B, 0, none⟩) 2 (nb n 2) := by
        have h1 := Hn.out
        have h2 := HR.out
        simp only [Nat.sub_self, nb, List.nil_append, List.replicate_zero] at h1 h2
        rw [show nb n 2 = sfx from h1]
        obtain ⟨A, c, he, _, hc⟩ := Kd.R_reads h2
        injection he with e1 e2 e3
        subst e1
        rw [hsl] at hc
        exact Kd.reads_of_C (d := (0 : Int)) hc
      have Hr := Lib.hid hr
      clear hr
      go_wp2_with (go_at_call 37; refine (HQ.out _ _ _ _ Hr.out Hb.out).mono ?_)
      rintro e w2 ⟨rfl, hQ⟩
      have HQ2 := Lib.hid hQ
      clear hQ
      go_wp2
      go_end0
      exact ⟨rfl, HQ2.out⟩

set_option maxHeartbeats 1000000 in
theorem u16_put (p : Value) (n : Int) (w : World) (h0 : 0 ≤ n) (hn : n ≤ 65535) (Q : World → Prop) (hq : Puts p (nb n 2) w Q) :
    Calls Try.prog 46 #[p, .int .u16 n] w fun e w' => e = .returned (.tuple #[]) ∧ Q w' := by
  have HQ := Lib.hid hq
  clear hq
  go_enter Try.func46, Try.ntmps46
  go_wp2_with (go_at_call 57; refine (number_u16 p n _ h0 hn Q HQ.out).mono ?_)
  rintro e w2 ⟨rfl, hQ⟩
  have HQ2 := Lib.hid hQ
  clear hQ
  go_wp2
  go_end0
  exact ⟨rfl, HQ2.out⟩

set_option maxHeartbeats 1000000 in
theorem number_u32 (p : Value) (n : Int) (w : World) (h0 : 0 ≤ n) (hn : n ≤ 4294967295) (Q : World → Prop) (hq : Puts p (nb n 4) w Q) :
    Calls Try.prog 58 #[p, .int .u32 n, .int .i64 4] w fun e w' => e = .returned (.tuple #[]) ∧ Q w' := by
  have HQ := Lib.hid hq
  clear hq
  have km : (Instr.makeSlice 64 (.int .i64 4) (.int .i64 4)).run Try.prog w = _ := print_make (P := Try.prog) 64 5 .u8 1 Try.underlying64 infoByte (by decide) 4 (by decide) w
  have Hmade := Lib.hid (own_made w w.heap.size 5 .u8 4 (Nat.le_refl _) (by decide))
  have Hb0 := Lib.hid (below_alloc (Below.refl w.heap.size w) (.cells (madeCells #[.int .u8 0] 4) 5))
  generalize w.alloc (.cells (madeCells #[.int .u8 0] 4) 5) = W0 at km Hmade Hb0
  generalize hB : w.heap.size = B at km Hmade
  have HB := Lib.hid hB
  clear hB
  go_enter Try.func58, Try.ntmps58
  go_wp2
  go_loopw [1, 12] (fun nv iv wr => ∃ (i : Nat) (m : Int) (sfx : List Int), i ≤ 4 ∧ sfx.length = i ∧ 0 ≤ m ∧ m ≤ 4294967295 ∧ nv = .int .u32 m ∧ iv = .int .i64 i ∧ Hid (nb n 4 = nb m (4 - i) ++ sfx) ∧ Hid (Kd.R (Kd.int .u8) 5 wr B (fun _ => True) (.slice (some ⟨B, 0, none⟩) 4 4) (List.replicate (4 - i) 0 ++ sfx)) ∧ Hid (Below w.heap.size w wr)) (fun _ iv _ => 4 - (intOf iv).toNat)
  case atStart => exact ⟨0, n, [], by omega, rfl, h0, hn, rfl, rfl, by show _ = _; simp, Kd.R_of_own (enc := Value.int .u8) (xs := List.replicate 4 0 ++ []) (by have h := Hmade.out; rw [List.append_nil]; exact h) (fun _ _ => trivial), Hb0.out⟩
  case round =>
    obtain ⟨i, m, sfx, hi, hsl, hm0, hm1, rfl, rfl, Hn, HR, Hb⟩ := hrel
    by_cases hp : i < 4
    · have hc := Kd.R_celln (0 : Int) HR.out (((4 - 1 - i : Nat) : Int)) (by omega) (by omega)
      have Hput := Lib.hid (Kd.R_putn HR.out (((4 - 1 - i : Nat) : Int)) (m % 256))
      have Hset := Lib.hid (set_rep (4 - 1 - i) (m % 256) sfx)
      simp only [Int.toNat_natCast] at hc
      have hc1 := hc.1
      have hc2 := hc.2
      clear hc
      have Hn2 := Lib.hid (nb_step n m 4 i sfx (by omega) Hn.out)
      go_wp2
      go_roundw
      case rel =>
        refine ⟨i + 1, m / 16 / 16, (m % 256) :: sfx, by omega, by simp [hsl], by omega, by omega, rfl, by go_num, Hn2.out, ?_, Hb.out.setCell (p := ⟨B, _, none⟩) (by rw [HB.out]; exact Nat.le_refl _) _⟩
        have h := Hput.out
        rw [show 4 - i = 4 - 1 - i + 1 by omega] at h
        simp only [Int.toNat_natCast, Hset.out] at h
        rw [show 4 - (i + 1) = 4 - 1 - i by omega]
        exact h
      case measure => simp [intOf] <;> omega
    · obtain rfl : i = 4 := by omega
      have hr : ReadsInt wr .u8 (some ⟨B, 0, none⟩) 4 (nb n 4) := by
        have h1 := Hn.out
        have h2 := HR.out
        simp only [Nat.sub_self, nb, List.nil_append, List.replicate_zero] at h1 h2
        rw [show nb n 4 = sfx from h1]
        obtain ⟨A, c, he, _, hc⟩ := Kd.R_reads h2
        injection he with e1 e2 e3
        subst e1
        rw [hsl] at hc
        exact Kd.reads_of_C (d := (0 : Int)) hc
      have Hr := Lib.hid hr
      clear hr
      go_wp2_with (go_at_call 37; refine (HQ.out _ _ _ _ Hr.out Hb.out).mono ?_)
      rintro e w2 ⟨rfl, hQ⟩
      have HQ2 := Lib.hid hQ
      clear hQ
      go_wp2
      go_end0
      exact ⟨rfl, HQ2.out⟩

set_option maxHeartbeats 1000000 in
theorem u32_put (p : Value) (n : Int) (w : World) (h0 : 0 ≤ n) (hn : n ≤ 4294967295) (Q : World → Prop) (hq : Puts p (nb n 4) w Q) :
    Calls Try.prog 47 #[p, .int .u32 n] w fun e w' => e = .returned (.tuple #[]) ∧ Q w' := by
  have HQ := Lib.hid hq
  clear hq
  go_enter Try.func47, Try.ntmps47
  go_wp2_with (go_at_call 58; refine (number_u32 p n _ h0 hn Q HQ.out).mono ?_)
  rintro e w2 ⟨rfl, hQ⟩
  have HQ2 := Lib.hid hQ
  clear hQ
  go_wp2
  go_end0
  exact ⟨rfl, HQ2.out⟩

set_option maxHeartbeats 1000000 in
theorem number_u64 (p : Value) (n : Int) (w : World) (h0 : 0 ≤ n) (hn : n ≤ 18446744073709551615) (Q : World → Prop) (hq : Puts p (nb n 8) w Q) :
    Calls Try.prog 59 #[p, .int .u64 n, .int .i64 8] w fun e w' => e = .returned (.tuple #[]) ∧ Q w' := by
  have HQ := Lib.hid hq
  clear hq
  have km : (Instr.makeSlice 64 (.int .i64 8) (.int .i64 8)).run Try.prog w = _ := print_make (P := Try.prog) 64 5 .u8 1 Try.underlying64 infoByte (by decide) 8 (by decide) w
  have Hmade := Lib.hid (own_made w w.heap.size 5 .u8 8 (Nat.le_refl _) (by decide))
  have Hb0 := Lib.hid (below_alloc (Below.refl w.heap.size w) (.cells (madeCells #[.int .u8 0] 8) 5))
  generalize w.alloc (.cells (madeCells #[.int .u8 0] 8) 5) = W0 at km Hmade Hb0
  generalize hB : w.heap.size = B at km Hmade
  have HB := Lib.hid hB
  clear hB
  go_enter Try.func59, Try.ntmps59
  go_wp2
  go_loopw [1, 12] (fun nv iv wr => ∃ (i : Nat) (m : Int) (sfx : List Int), i ≤ 8 ∧ sfx.length = i ∧ 0 ≤ m ∧ m ≤ 18446744073709551615 ∧ nv = .int .u64 m ∧ iv = .int .i64 i ∧ Hid (nb n 8 = nb m (8 - i) ++ sfx) ∧ Hid (Kd.R (Kd.int .u8) 5 wr B (fun _ => True) (.slice (some ⟨B, 0, none⟩) 8 8) (List.replicate (8 - i) 0 ++ sfx)) ∧ Hid (Below w.heap.size w wr)) (fun _ iv _ => 8 - (intOf iv).toNat)
  case atStart => exact ⟨0, n, [], by omega, rfl, h0, hn, rfl, rfl, by show _ = _; simp, Kd.R_of_own (enc := Value.int .u8) (xs := List.replicate 8 0 ++ []) (by have h := Hmade.out; rw [List.append_nil]; exact h) (fun _ _ => trivial), Hb0.out⟩
  case round =>
    obtain ⟨i, m, sfx, hi, hsl, hm0, hm1, rfl, rfl, Hn, HR, Hb⟩ := hrel
    by_cases hp : i < 8
    · have hc := Kd.R_celln (0 : Int) HR.out (((8 - 1 - i : Nat) : Int)) (by omega) (by omega)
      have Hput := Lib.hid (Kd.R_putn HR.out (((8 - 1 - i : Nat) : Int)) (m % 256))
      have Hset := Lib.hid (set_rep (8 - 1 - i) (m % 256) sfx)
      simp only [Int.toNat_natCast] at hc
      have hc1 := hc.1
      have hc2 := hc.2
      clear hc
      have Hn2 := Lib.hid (nb_step n m 8 i sfx (by omega) Hn.out)
      go_wp2
      go_roundw
      case rel =>
        refine ⟨i + 1, m / 16 / 16, (m % 256) :: sfx, by omega, by simp [hsl], by omega, by omega, rfl, by go_num, Hn2.out, ?_, Hb.out.setCell (p := ⟨B, _, none⟩) (by rw [HB.out]; exact Nat.le_refl _) _⟩
        have h := Hput.out
        rw [show 8 - i = 8 - 1 - i + 1 by omega] at h
        simp only [Int.toNat_natCast, Hset.out] at h
        rw [show 8 - (i + 1) = 8 - 1 - i by omega]
        exact h
      case measure => simp [intOf] <;> omega
    · obtain rfl : i = 8 := by omega
      have hr : ReadsInt wr .u8 (some ⟨B, 0, none⟩) 8 (nb n 8) := by
        have h1 := Hn.out
        have h2 := HR.out
        simp only [Nat.sub_self, nb, List.nil_append, List.replicate_zero] at h1 h2
        rw [show nb n 8 = sfx from h1]
        obtain ⟨A, c, he, _, hc⟩ := Kd.R_reads h2
        injection he with e1 e2 e3
        subst e1
        rw [hsl] at hc
        exact Kd.reads_of_C (d := (0 : Int)) hc
      have Hr := Lib.hid hr
      clear hr
      go_wp2_with (go_at_call 37; refine (HQ.out _ _ _ _ Hr.out Hb.out).mono ?_)
      rintro e w2 ⟨rfl, hQ⟩
      have HQ2 := Lib.hid hQ
      clear hQ
      go_wp2
      go_end0
      exact ⟨rfl, HQ2.out⟩

set_option maxHeartbeats 1000000 in
theorem u64_put (p : Value) (n : Int) (w : World) (h0 : 0 ≤ n) (hn : n ≤ 18446744073709551615) (Q : World → Prop) (hq : Puts p (nb n 8) w Q) :
    Calls Try.prog 48 #[p, .int .u64 n] w fun e w' => e = .returned (.tuple #[]) ∧ Q w' := by
  have HQ := Lib.hid hq
  clear hq
  go_enter Try.func48, Try.ntmps48
  go_wp2_with (go_at_call 59; refine (number_u64 p n _ h0 hn Q HQ.out).mono ?_)
  rintro e w2 ⟨rfl, hQ⟩
  have HQ2 := Lib.hid hQ
  clear hQ
  go_wp2
  go_end0
  exact ⟨rfl, HQ2.out⟩

end Go.Proofs.Ytjlohahknngmmaa
