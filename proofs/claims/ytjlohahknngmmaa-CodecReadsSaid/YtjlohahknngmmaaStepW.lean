/- Walk: step, one read of a Reader and of the reading beside it. Printed by cdstep.py. -/
import Derived.Test.YtjlohahknngmmaaStepT
import Derived.RegionTactic
import Derived.ChangeAlike
import Derived.BigRegion
import Derived.Deep.RegionHeld3
namespace Go.Proofs.Ytjlohahknngmmaa
open Go Go.RowKit Go.Proofs.YtjlohahknngmmaaW.PrintWords Go.Proofs.YtjlohahknngmmaaW.PrintMore Go.Proofs.YtjlohahknngmmaaW.PrintLast Go.Proofs.Ytjlohahknngmmaa.PC Go.Proofs.Ytjlohahknngmmaa.PureC
set_option linter.unusedVariables false
set_option linter.unusedSimpArgs false

theorem rd_keep {w0 W W1 : World} {g g' : Nat} {s : ByteArray} {e : Int} (h : IsS72 w0 W g s e) (hk : KeepBut W W1 g' none) (hne : g ≠ g') : IsS72 w0 W1 g s e := ⟨hk.blk h.1 hne (by simp), h.2⟩
theorem rx_keep {w0 W W1 : World} {g g' : Nat} {s : ByteArray} {e : Int} (h : IsS39 w0 W g s e) (hk : KeepBut W W1 g' none) (hne : g ≠ g') : IsS39 w0 W1 g s e := ⟨hk.blk h.1 hne (by simp), h.2⟩

theorem pow256_le {m n : Nat} (h : m ≤ n) (hn : n ≤ 8) : (256 : Int) ^ m ≤ 256 ^ n := by
  have h' : ((List.range 9).all fun n => (List.range 9).all fun m => decide (m ≤ n → (256 : Int) ^ m ≤ 256 ^ n)) = true := by decide +kernel
  exact of_decide_eq_true (List.all_eq_true.1 (List.all_eq_true.1 h' n (List.mem_range.2 (by omega))) m (List.mem_range.2 (by omega))) h
theorem rawP_one (s : ByteArray) (e : Int) (n : Nat) (hn : n ≤ 8) : 0 ≤ beN (bytesOf (rawP s e n).1) ∧ beN (bytesOf (rawP s e n).1) < 256 ^ n := by
  have h1 := be_range _ (bytesOf_are (rawP s e n).1)
  have h2 := (raw_size s e n).1
  rw [bytesOf_length] at h1
  refine ⟨h1.1, Int.lt_of_lt_of_le h1.2 ?_⟩
  exact pow256_le h2 hn

theorem rawR_size0 (s : ByteArray) (e n : Int) : (rawR s e n).2.1.size ≤ s.size := by
  unfold rawR
  split
  · split
    · exact Nat.zero_le _
    · split
      · exact Nat.zero_le _
      · simp only [ByteArray.size_extract]; omega
  · exact Nat.le_refl _
theorem rawP_size0 (s : ByteArray) (e n : Int) : (rawP s e n).2.1.size ≤ s.size := by
  unfold rawP
  split
  · split
    · exact Nat.le_refl _
    · split
      · exact Nat.le_refl _
      · simp only [ByteArray.size_extract]; omega
  · exact Nat.le_refl _
theorem varP_size (s : ByteArray) (e : Int) : (varP s e).2.1.size ≤ s.size := (varP_facts s e).2
theorem varR_size (s : ByteArray) (e : Int) : (varR s e).2.1.size ≤ s.size := (varR_facts s e).2
theorem textP_size (s : ByteArray) (e : Int) : (textP s e).2.1.size ≤ s.size := by
  have h := varP_size s e
  unfold textP
  split
  · split
    · exact h
    · exact Nat.le_trans (rawP_size0 _ _ _) h
  · exact h
theorem textR_size (s : ByteArray) (e : Int) : (textR s e).2.1.size ≤ s.size := by
  have h := varR_size s e
  unfold textR
  split
  · split
    · exact Nat.zero_le _
    · exact Nat.le_trans (rawR_size0 _ _ _) h
  · exact h
/-- What step leaves. -/
def Steps (w0 : World) (g1 g2 : Nat) (w' : World) : Prop :=
  ∃ s' l' e', IsS72 w0 w' g1 s' e' ∧ IsS39 w0 w' g2 l' e' ∧ Agree s' l' e' ∧ s'.size ≤ 281474976710656 ∧ l'.size ≤ 281474976710656 ∧ Below w0.heap.size w0 w'
theorem rawR_size (s : ByteArray) (e n : Int) : (rawR s e n).2.1.size ≤ s.size := by
  unfold rawR
  split
  · split
    · exact Nat.zero_le _
    · split
      · exact Nat.zero_le _
      · simp only [ByteArray.size_extract]; omega
  · exact Nat.le_refl _
theorem rawP_size (s : ByteArray) (e n : Int) : (rawP s e n).2.1.size ≤ s.size := by
  unfold rawP
  split
  · split
    · exact Nat.le_refl _
    · split
      · exact Nat.le_refl _
      · simp only [ByteArray.size_extract]; omega
  · exact Nat.le_refl _
theorem u8_eq (s : ByteArray) (e : Int) : codec_Reader_U8.f s e = some (beN (bytesOf (rawP s e 1).1), (rawP s e 1).2.1, (rawP s e 1).2.2) := by
  have h := rawP_one s e 1 (by decide)
  have h2 := read_eq s e 1 (by decide)
  rw [show ((256 : Int) ^ 1) = 256 from rfl] at h
  unfold codec_Reader_U8.f
  rw [show ((1 : Nat) : Int) = 1 from rfl] at h h2
  rw [h2, Option.bind_some]
  simp only [Option.some.injEq, Prod.mk.injEq, and_true]
  omega

theorem u16_eq (s : ByteArray) (e : Int) : codec_Reader_U16.f s e = some (beN (bytesOf (rawP s e 2).1), (rawP s e 2).2.1, (rawP s e 2).2.2) := by
  have h := rawP_one s e 2 (by decide)
  have h2 := read_eq s e 2 (by decide)
  rw [show ((256 : Int) ^ 2) = 65536 from rfl] at h
  unfold codec_Reader_U16.f
  rw [show ((2 : Nat) : Int) = 2 from rfl] at h h2
  rw [h2, Option.bind_some]
  simp only [Option.some.injEq, Prod.mk.injEq, and_true]
  show _ % 65536 = _
  omega

theorem u32_eq (s : ByteArray) (e : Int) : codec_Reader_U32.f s e = some (beN (bytesOf (rawP s e 4).1), (rawP s e 4).2.1, (rawP s e 4).2.2) := by
  have h := rawP_one s e 4 (by decide)
  have h2 := read_eq s e 4 (by decide)
  rw [show ((256 : Int) ^ 4) = 4294967296 from rfl] at h
  unfold codec_Reader_U32.f
  rw [show ((4 : Nat) : Int) = 4 from rfl] at h h2
  rw [h2, Option.bind_some]
  simp only [Option.some.injEq, Prod.mk.injEq, and_true]
  omega

theorem u64_eq (s : ByteArray) (e : Int) : codec_Reader_U64.f s e = some (beN (bytesOf (rawP s e 8).1), (rawP s e 8).2.1, (rawP s e 8).2.2) := by
  have h := rawP_one s e 8 (by decide)
  have h2 := read_eq s e 8 (by decide)
  rw [show ((256 : Int) ^ 8) = 18446744073709551616 from rfl] at h
  unfold codec_Reader_U64.f
  rw [show ((8 : Nat) : Int) = 8 from rfl] at h h2
  rw [h2, Option.bind_some]

set_option maxHeartbeats 2000000 in
theorem step_u8 (w0 : World) (g1 g2 : Nat) (s l : ByteArray) (e n : Int) (t : ByteArray) (w : World) (hI : IsS72 w0 w g1 s e) (hX : IsS39 w0 w g2 l e) (hA : Agree s l e) (hs : s.size ≤ 281474976710656) (hl : l.size ≤ 281474976710656) (hB : Below w0.heap.size w0 w) :
    Calls Try.prog 19 #[.pointer (some ⟨g1, 0, none⟩), .pointer (some ⟨g2, 0, none⟩), .agg #[.int .i64 0, .int .u64 n, .string t]] w fun r w' => r = .returned (.bool true) ∧ Steps w0 g1 g2 w' := by
  have hu := Try.underlying41
  have Hne := Aside0.mk (show g1 ≠ g2 from IsS72.ne_blk hI hX.1 (by decide))
  have HI := Aside0.mk (IsS72.alloc hI (.cells #[.int .i64 0, .int .u64 n, .string t] 41))
  have HX := Aside0.mk (IsS39.alloc hX (.cells #[.int .i64 0, .int .u64 n, .string t] 41))
  have HB := Aside0.mk (below_alloc hB (.cells #[.int .i64 0, .int .u64 n, .string t] 41))
  have Hlt1 := Aside0.mk (blk_lt hI.1)
  have Hlt2 := Aside0.mk (blk_lt hX.1)
  clear hI hX hB
  have Hu := Aside0.mk (u8_eq s e)
  have Hx := Aside0.mk (rraw_eq l e 1)
  obtain ⟨a1, a2, a3⟩ := raw_agree s l e 1 hA
  have hv := rawP_one s e 1 (by decide)
  rw [show ((256 : Int) ^ 1) = 256 from rfl] at hv
  have z1 := rawP_size s e 1
  have z2 := rawR_size l e 1
  have z3 := (raw_size s e 1).1
  rw [show ((1 : Nat) : Int) = 1 from rfl] at hv z3
  rw [a1] at hv z3 Hu
  obtain ⟨k, hk⟩ := (ref_read (rawR l e 1).1 (by omega)).rounds
  have Hk := Aside0.mk hk
  have HA := Aside0.mk a3
  have Ha2 := Aside0.mk a2
  clear hk a1 a2 a3 hA
  generalize beN (bytesOf (rawR l e 1).1) = v at *
  generalize rawP s e 1 = P at *
  obtain ⟨p1, p2, p3⟩ := P
  generalize rawR l e 1 = R at *
  obtain ⟨r1, r2, r3⟩ := R
  have hE := Ha2.out
  dsimp only at hE z1 z2 Hu Hx HA
  subst hE
  clear Ha2
  have hv1 := hv.1
  have hv2 := hv.2
  have hw : IntKind.u64.wrap v = v := u64w (by omega) (by omega)
  clear hv
  go_enter Try.func19, Try.ntmps19
  go_wp2_with (go_at_call 23; refine (codec_Reader_U8.calls g1 s e v p2 p3 w0 _ HI.out HB.out Hu.out).mono ?_)
  intro e1 w1
  first | intro he hI hB hK | rintro ⟨he, hI, hB, hK⟩
  subst he
  have HI := Aside0.mk hI
  have HX := Aside0.mk (rx_keep HX.out hK (fun h => Hne.out h.symm))
  have HB := Aside0.mk hB
  clear hI hB hK
  go_wp2_with (go_at_call 42; refine (atriumlaw02_reading_raw.calls g2 l e 1 r1 r2 p3 w0 _ HX.out HB.out Hx.out).mono ?_)
  intro e2 w2
  first | intro he hX hB hK | rintro ⟨he, hX, hB, hK⟩
  subst he
  have HX := Aside0.mk hX
  have HI := Aside0.mk (rd_keep HI.out hK Hne.out)
  have HB := Aside0.mk hB
  clear hX hB hK
  go_wp2_with (go_at_call 41; refine (atriumref02_Read.calls k r1 v _ Hk.out).mono ?_)
  intro e3 w3
  first | intro he hq | rintro ⟨he, hq⟩
  subst he
  obtain ⟨q, rfl⟩ := hq
  go_wp2
  go_ret
  exact ⟨rfl, p2, r2, p3, HI.out.drewN q, HX.out.drewN q, HA.out, by omega, by omega, pw_below_drewN HB.out q⟩
set_option maxHeartbeats 2000000 in
theorem step_u16 (w0 : World) (g1 g2 : Nat) (s l : ByteArray) (e n : Int) (t : ByteArray) (w : World) (hI : IsS72 w0 w g1 s e) (hX : IsS39 w0 w g2 l e) (hA : Agree s l e) (hs : s.size ≤ 281474976710656) (hl : l.size ≤ 281474976710656) (hB : Below w0.heap.size w0 w) :
    Calls Try.prog 19 #[.pointer (some ⟨g1, 0, none⟩), .pointer (some ⟨g2, 0, none⟩), .agg #[.int .i64 1, .int .u64 n, .string t]] w fun r w' => r = .returned (.bool true) ∧ Steps w0 g1 g2 w' := by
  have hu := Try.underlying41
  have Hne := Aside0.mk (show g1 ≠ g2 from IsS72.ne_blk hI hX.1 (by decide))
  have HI := Aside0.mk (IsS72.alloc hI (.cells #[.int .i64 1, .int .u64 n, .string t] 41))
  have HX := Aside0.mk (IsS39.alloc hX (.cells #[.int .i64 1, .int .u64 n, .string t] 41))
  have HB := Aside0.mk (below_alloc hB (.cells #[.int .i64 1, .int .u64 n, .string t] 41))
  have Hlt1 := Aside0.mk (blk_lt hI.1)
  have Hlt2 := Aside0.mk (blk_lt hX.1)
  clear hI hX hB
  have Hu := Aside0.mk (u16_eq s e)
  have Hx := Aside0.mk (rraw_eq l e 2)
  obtain ⟨a1, a2, a3⟩ := raw_agree s l e 2 hA
  have hv := rawP_one s e 2 (by decide)
  rw [show ((256 : Int) ^ 2) = 65536 from rfl] at hv
  have z1 := rawP_size s e 2
  have z2 := rawR_size l e 2
  have z3 := (raw_size s e 2).1
  rw [show ((2 : Nat) : Int) = 2 from rfl] at hv z3
  rw [a1] at hv z3 Hu
  obtain ⟨k, hk⟩ := (ref_read (rawR l e 2).1 (by omega)).rounds
  have Hk := Aside0.mk hk
  have HA := Aside0.mk a3
  have Ha2 := Aside0.mk a2
  clear hk a1 a2 a3 hA
  generalize beN (bytesOf (rawR l e 2).1) = v at *
  generalize rawP s e 2 = P at *
  obtain ⟨p1, p2, p3⟩ := P
  generalize rawR l e 2 = R at *
  obtain ⟨r1, r2, r3⟩ := R
  have hE := Ha2.out
  dsimp only at hE z1 z2 Hu Hx HA
  subst hE
  clear Ha2
  have hv1 := hv.1
  have hv2 := hv.2
  have hw : IntKind.u64.wrap v = v := u64w (by omega) (by omega)
  clear hv
  go_enter Try.func19, Try.ntmps19
  go_wp2_with (go_at_call 24; refine (codec_Reader_U16.calls g1 s e v p2 p3 w0 _ HI.out HB.out Hu.out).mono ?_)
  intro e1 w1
  first | intro he hI hB hK | rintro ⟨he, hI, hB, hK⟩
  subst he
  have HI := Aside0.mk hI
  have HX := Aside0.mk (rx_keep HX.out hK (fun h => Hne.out h.symm))
  have HB := Aside0.mk hB
  clear hI hB hK
  go_wp2_with (go_at_call 42; refine (atriumlaw02_reading_raw.calls g2 l e 2 r1 r2 p3 w0 _ HX.out HB.out Hx.out).mono ?_)
  intro e2 w2
  first | intro he hX hB hK | rintro ⟨he, hX, hB, hK⟩
  subst he
  have HX := Aside0.mk hX
  have HI := Aside0.mk (rd_keep HI.out hK Hne.out)
  have HB := Aside0.mk hB
  clear hX hB hK
  go_wp2_with (go_at_call 41; refine (atriumref02_Read.calls k r1 v _ Hk.out).mono ?_)
  intro e3 w3
  first | intro he hq | rintro ⟨he, hq⟩
  subst he
  obtain ⟨q, rfl⟩ := hq
  go_wp2
  go_ret
  exact ⟨rfl, p2, r2, p3, HI.out.drewN q, HX.out.drewN q, HA.out, by omega, by omega, pw_below_drewN HB.out q⟩
set_option maxHeartbeats 2000000 in
theorem step_u32 (w0 : World) (g1 g2 : Nat) (s l : ByteArray) (e n : Int) (t : ByteArray) (w : World) (hI : IsS72 w0 w g1 s e) (hX : IsS39 w0 w g2 l e) (hA : Agree s l e) (hs : s.size ≤ 281474976710656) (hl : l.size ≤ 281474976710656) (hB : Below w0.heap.size w0 w) :
    Calls Try.prog 19 #[.pointer (some ⟨g1, 0, none⟩), .pointer (some ⟨g2, 0, none⟩), .agg #[.int .i64 2, .int .u64 n, .string t]] w fun r w' => r = .returned (.bool true) ∧ Steps w0 g1 g2 w' := by
  have hu := Try.underlying41
  have Hne := Aside0.mk (show g1 ≠ g2 from IsS72.ne_blk hI hX.1 (by decide))
  have HI := Aside0.mk (IsS72.alloc hI (.cells #[.int .i64 2, .int .u64 n, .string t] 41))
  have HX := Aside0.mk (IsS39.alloc hX (.cells #[.int .i64 2, .int .u64 n, .string t] 41))
  have HB := Aside0.mk (below_alloc hB (.cells #[.int .i64 2, .int .u64 n, .string t] 41))
  have Hlt1 := Aside0.mk (blk_lt hI.1)
  have Hlt2 := Aside0.mk (blk_lt hX.1)
  clear hI hX hB
  have Hu := Aside0.mk (u32_eq s e)
  have Hx := Aside0.mk (rraw_eq l e 4)
  obtain ⟨a1, a2, a3⟩ := raw_agree s l e 4 hA
  have hv := rawP_one s e 4 (by decide)
  rw [show ((256 : Int) ^ 4) = 4294967296 from rfl] at hv
  have z1 := rawP_size s e 4
  have z2 := rawR_size l e 4
  have z3 := (raw_size s e 4).1
  rw [show ((4 : Nat) : Int) = 4 from rfl] at hv z3
  rw [a1] at hv z3 Hu
  obtain ⟨k, hk⟩ := (ref_read (rawR l e 4).1 (by omega)).rounds
  have Hk := Aside0.mk hk
  have HA := Aside0.mk a3
  have Ha2 := Aside0.mk a2
  clear hk a1 a2 a3 hA
  generalize beN (bytesOf (rawR l e 4).1) = v at *
  generalize rawP s e 4 = P at *
  obtain ⟨p1, p2, p3⟩ := P
  generalize rawR l e 4 = R at *
  obtain ⟨r1, r2, r3⟩ := R
  have hE := Ha2.out
  dsimp only at hE z1 z2 Hu Hx HA
  subst hE
  clear Ha2
  have hv1 := hv.1
  have hv2 := hv.2
  have hw : IntKind.u64.wrap v = v := u64w (by omega) (by omega)
  clear hv
  go_enter Try.func19, Try.ntmps19
  go_wp2_with (go_at_call 25; refine (codec_Reader_U32.calls g1 s e v p2 p3 w0 _ HI.out HB.out Hu.out).mono ?_)
  intro e1 w1
  first | intro he hI hB hK | rintro ⟨he, hI, hB, hK⟩
  subst he
  have HI := Aside0.mk hI
  have HX := Aside0.mk (rx_keep HX.out hK (fun h => Hne.out h.symm))
  have HB := Aside0.mk hB
  clear hI hB hK
  go_wp2_with (go_at_call 42; refine (atriumlaw02_reading_raw.calls g2 l e 4 r1 r2 p3 w0 _ HX.out HB.out Hx.out).mono ?_)
  intro e2 w2
  first | intro he hX hB hK | rintro ⟨he, hX, hB, hK⟩
  subst he
  have HX := Aside0.mk hX
  have HI := Aside0.mk (rd_keep HI.out hK Hne.out)
  have HB := Aside0.mk hB
  clear hX hB hK
  go_wp2_with (go_at_call 41; refine (atriumref02_Read.calls k r1 v _ Hk.out).mono ?_)
  intro e3 w3
  first | intro he hq | rintro ⟨he, hq⟩
  subst he
  obtain ⟨q, rfl⟩ := hq
  go_wp2
  go_ret
  exact ⟨rfl, p2, r2, p3, HI.out.drewN q, HX.out.drewN q, HA.out, by omega, by omega, pw_below_drewN HB.out q⟩
set_option maxHeartbeats 2000000 in
theorem step_u64 (w0 : World) (g1 g2 : Nat) (s l : ByteArray) (e n : Int) (t : ByteArray) (w : World) (hI : IsS72 w0 w g1 s e) (hX : IsS39 w0 w g2 l e) (hA : Agree s l e) (hs : s.size ≤ 281474976710656) (hl : l.size ≤ 281474976710656) (hB : Below w0.heap.size w0 w) :
    Calls Try.prog 19 #[.pointer (some ⟨g1, 0, none⟩), .pointer (some ⟨g2, 0, none⟩), .agg #[.int .i64 3, .int .u64 n, .string t]] w fun r w' => r = .returned (.bool true) ∧ Steps w0 g1 g2 w' := by
  have hu := Try.underlying41
  have Hne := Aside0.mk (show g1 ≠ g2 from IsS72.ne_blk hI hX.1 (by decide))
  have HI := Aside0.mk (IsS72.alloc hI (.cells #[.int .i64 3, .int .u64 n, .string t] 41))
  have HX := Aside0.mk (IsS39.alloc hX (.cells #[.int .i64 3, .int .u64 n, .string t] 41))
  have HB := Aside0.mk (below_alloc hB (.cells #[.int .i64 3, .int .u64 n, .string t] 41))
  have Hlt1 := Aside0.mk (blk_lt hI.1)
  have Hlt2 := Aside0.mk (blk_lt hX.1)
  clear hI hX hB
  have Hu := Aside0.mk (u64_eq s e)
  have Hx := Aside0.mk (rraw_eq l e 8)
  obtain ⟨a1, a2, a3⟩ := raw_agree s l e 8 hA
  have hv := rawP_one s e 8 (by decide)
  rw [show ((256 : Int) ^ 8) = 18446744073709551616 from rfl] at hv
  have z1 := rawP_size s e 8
  have z2 := rawR_size l e 8
  have z3 := (raw_size s e 8).1
  rw [show ((8 : Nat) : Int) = 8 from rfl] at hv z3
  rw [a1] at hv z3 Hu
  obtain ⟨k, hk⟩ := (ref_read (rawR l e 8).1 (by omega)).rounds
  have Hk := Aside0.mk hk
  have HA := Aside0.mk a3
  have Ha2 := Aside0.mk a2
  clear hk a1 a2 a3 hA
  generalize beN (bytesOf (rawR l e 8).1) = v at *
  generalize rawP s e 8 = P at *
  obtain ⟨p1, p2, p3⟩ := P
  generalize rawR l e 8 = R at *
  obtain ⟨r1, r2, r3⟩ := R
  have hE := Ha2.out
  dsimp only at hE z1 z2 Hu Hx HA
  subst hE
  clear Ha2
  have hv1 := hv.1
  have hv2 := hv.2
  have hw : IntKind.u64.wrap v = v := u64w (by omega) (by omega)
  clear hv
  go_enter Try.func19, Try.ntmps19
  go_wp2_with (go_at_call 26; refine (codec_Reader_U64.calls g1 s e v p2 p3 w0 _ HI.out HB.out Hu.out).mono ?_)
  intro e1 w1
  first | intro he hI hB hK | rintro ⟨he, hI, hB, hK⟩
  subst he
  have HI := Aside0.mk hI
  have HX := Aside0.mk (rx_keep HX.out hK (fun h => Hne.out h.symm))
  have HB := Aside0.mk hB
  clear hI hB hK
  go_wp2_with (go_at_call 42; refine (atriumlaw02_reading_raw.calls g2 l e 8 r1 r2 p3 w0 _ HX.out HB.out Hx.out).mono ?_)
  intro e2 w2
  first | intro he hX hB hK | rintro ⟨he, hX, hB, hK⟩
  subst he
  have HX := Aside0.mk hX
  have HI := Aside0.mk (rd_keep HI.out hK Hne.out)
  have HB := Aside0.mk hB
  clear hX hB hK
  go_wp2_with (go_at_call 41; refine (atriumref02_Read.calls k r1 v _ Hk.out).mono ?_)
  intro e3 w3
  first | intro he hq | rintro ⟨he, hq⟩
  subst he
  obtain ⟨q, rfl⟩ := hq
  go_wp2
  go_ret
  exact ⟨rfl, p2, r2, p3, HI.out.drewN q, HX.out.drewN q, HA.out, by omega, by omega, pw_below_drewN HB.out q⟩
set_option maxHeartbeats 2000000 in
theorem step_varint (w0 : World) (g1 g2 : Nat) (s l : ByteArray) (e n : Int) (t : ByteArray) (w : World) (hI : IsS72 w0 w g1 s e) (hX : IsS39 w0 w g2 l e) (hA : Agree s l e) (hs : s.size ≤ 281474976710656) (hl : l.size ≤ 281474976710656) (hB : Below w0.heap.size w0 w) :
    Calls Try.prog 19 #[.pointer (some ⟨g1, 0, none⟩), .pointer (some ⟨g2, 0, none⟩), .agg #[.int .i64 4, .int .u64 n, .string t]] w fun r w' => r = .returned (.bool true) ∧ Steps w0 g1 g2 w' := by
  have hu := Try.underlying41
  have Hne := Aside0.mk (show g1 ≠ g2 from IsS72.ne_blk hI hX.1 (by decide))
  have HI := Aside0.mk (IsS72.alloc hI (.cells #[.int .i64 4, .int .u64 n, .string t] 41))
  have HX := Aside0.mk (IsS39.alloc hX (.cells #[.int .i64 4, .int .u64 n, .string t] 41))
  have HB := Aside0.mk (below_alloc hB (.cells #[.int .i64 4, .int .u64 n, .string t] 41))
  have Hlt1 := Aside0.mk (blk_lt hI.1)
  have Hlt2 := Aside0.mk (blk_lt hX.1)
  clear hI hX hB
  obtain ⟨k1, hk1⟩ := ((varint_ev s e hs) : Ev _ _).rounds
  obtain ⟨k2, hk2⟩ := ((rvarint_ev l e hl) : Ev _ _).rounds
  obtain ⟨a1, a2, a3⟩ := var_agree s l e hA
  have z1 := (varP_size s e)
  have z2 := (varR_size l e)
  have Hu := Aside0.mk hk1
  have Hx := Aside0.mk hk2
  have HA := Aside0.mk a3
  have Ha1 := Aside0.mk a1
  have Ha2 := Aside0.mk a2
  clear hk1 hk2 a1 a2 a3 hA
  generalize varP s e = P at *
  obtain ⟨p1, p2, p3⟩ := P
  generalize varR l e = R at *
  obtain ⟨r1, r2, r3⟩ := R
  have hE := Ha2.out
  have hE1 := Ha1.out
  dsimp only at hE hE1 z1 z2 Hu Hx HA
  subst hE hE1
  clear Ha1 Ha2
  go_enter Try.func19, Try.ntmps19
  go_wp2_with (go_at_call 16; refine (codec_Reader_Varint.calls k1 g1 s e p1 p2 p3 w0 _ HI.out HB.out Hu.out).mono ?_)
  intro e1 w1
  first | intro he hI hB hK | rintro ⟨he, hI, hB, hK⟩
  subst he
  have HI := Aside0.mk hI
  have HX := Aside0.mk (rx_keep HX.out hK (fun h => Hne.out h.symm))
  have HB := Aside0.mk hB
  clear hI hB hK
  go_wp2_with (go_at_call 43; refine (atriumlaw02_reading_varint.calls k2 g2 l e p1 r2 p3 w0 _ HX.out HB.out Hx.out).mono ?_)
  intro e2 w2
  first | intro he hX hB hK | rintro ⟨he, hX, hB, hK⟩
  subst he
  have HX := Aside0.mk hX
  have HI := Aside0.mk (rd_keep HI.out hK Hne.out)
  have HB := Aside0.mk hB
  clear hX hB hK
  go_wp2
  go_ret
  exact ⟨by simp, p2, r2, p3, HI.out, HX.out, HA.out, by omega, by omega, HB.out⟩
set_option maxHeartbeats 2000000 in
theorem step_text (w0 : World) (g1 g2 : Nat) (s l : ByteArray) (e n : Int) (t : ByteArray) (w : World) (hI : IsS72 w0 w g1 s e) (hX : IsS39 w0 w g2 l e) (hA : Agree s l e) (hs : s.size ≤ 281474976710656) (hl : l.size ≤ 281474976710656) (hB : Below w0.heap.size w0 w) :
    Calls Try.prog 19 #[.pointer (some ⟨g1, 0, none⟩), .pointer (some ⟨g2, 0, none⟩), .agg #[.int .i64 5, .int .u64 n, .string t]] w fun r w' => r = .returned (.bool true) ∧ Steps w0 g1 g2 w' := by
  have hu := Try.underlying41
  have Hne := Aside0.mk (show g1 ≠ g2 from IsS72.ne_blk hI hX.1 (by decide))
  have HI := Aside0.mk (IsS72.alloc hI (.cells #[.int .i64 5, .int .u64 n, .string t] 41))
  have HX := Aside0.mk (IsS39.alloc hX (.cells #[.int .i64 5, .int .u64 n, .string t] 41))
  have HB := Aside0.mk (below_alloc hB (.cells #[.int .i64 5, .int .u64 n, .string t] 41))
  have Hlt1 := Aside0.mk (blk_lt hI.1)
  have Hlt2 := Aside0.mk (blk_lt hX.1)
  clear hI hX hB
  obtain ⟨k1, hk1⟩ := ((text_ev s e hs) : Ev _ _).rounds
  obtain ⟨k2, hk2⟩ := ((rtext_ev l e hl) : Ev _ _).rounds
  obtain ⟨a1, a2, a3⟩ := text_agree s l e hA
  have z1 := (textP_size s e)
  have z2 := (textR_size l e)
  have Hu := Aside0.mk hk1
  have Hx := Aside0.mk hk2
  have HA := Aside0.mk a3
  have Ha1 := Aside0.mk a1
  have Ha2 := Aside0.mk a2
  clear hk1 hk2 a1 a2 a3 hA
  generalize textP s e = P at *
  obtain ⟨p1, p2, p3⟩ := P
  generalize textR l e = R at *
  obtain ⟨r1, r2, r3⟩ := R
  have hE := Ha2.out
  have hE1 := Ha1.out
  dsimp only at hE hE1 z1 z2 Hu Hx HA
  subst hE hE1
  clear Ha1 Ha2
  go_enter Try.func19, Try.ntmps19
  go_wp2_with (go_at_call 27; refine (codec_Reader_Text.calls k1 g1 s e p1 p2 p3 w0 _ HI.out HB.out Hu.out).mono ?_)
  intro e1 w1
  first | intro he hI hB hK | rintro ⟨he, hI, hB, hK⟩
  subst he
  have HI := Aside0.mk hI
  have HX := Aside0.mk (rx_keep HX.out hK (fun h => Hne.out h.symm))
  have HB := Aside0.mk hB
  clear hI hB hK
  go_wp2_with (go_at_call 44; refine (atriumlaw02_reading_text.calls k2 g2 l e p1 r2 p3 w0 _ HX.out HB.out Hx.out).mono ?_)
  intro e2 w2
  first | intro he hX hB hK | rintro ⟨he, hX, hB, hK⟩
  subst he
  have HX := Aside0.mk hX
  have HI := Aside0.mk (rd_keep HI.out hK Hne.out)
  have HB := Aside0.mk hB
  clear hX hB hK
  go_wp2
  go_ret
  exact ⟨by simp, p2, r2, p3, HI.out, HX.out, HA.out, by omega, by omega, HB.out⟩
end Go.Proofs.Ytjlohahknngmmaa
