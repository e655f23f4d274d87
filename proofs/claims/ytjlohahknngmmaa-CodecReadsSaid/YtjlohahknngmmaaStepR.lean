/- Walk: step, kind 6 (a read of so many bytes). -/
import Derived.Test.YtjlohahknngmmaaStepW
import Derived.Deep.DrawnRows
namespace Go.Proofs.Ytjlohahknngmmaa
open Go Go.RowKit Go.Proofs.YtjlohahknngmmaaW.PrintWords Go.Proofs.YtjlohahknngmmaaW.PrintMore Go.Proofs.YtjlohahknngmmaaW.PrintLast Go.Proofs.Ytjlohahknngmmaa.PC Go.Proofs.Ytjlohahknngmmaa.PureC
set_option linter.unusedVariables false
set_option linter.unusedSimpArgs false
attribute [local go_sem ↓] Go.wp_at_zero Go.wp_at_succ

/-- A Reader, the reading beside it, and a block that stays. -/
def RS (w0 : World) (g1 g2 gc : Nat) (cs : Array Value) (s : ByteArray) (e : Int) (l : ByteArray) (e' : Int) (w : World) : Prop :=
  IsS72 w0 w g1 s e ∧ IsS39 w0 w g2 l e' ∧ w.heap[gc]? = some (.cells cs 41 (0, 0)) ∧ Below w0.heap.size w0 w

theorem RS.drew {w0 : World} {g1 g2 gc : Nat} {cs : Array Value} {s : ByteArray} {e : Int} {l : ByteArray} {e' : Int} {w : World} (h : RS w0 g1 g2 gc cs s e l e' w) : RS w0 g1 g2 gc cs s e l e' w.drew := ⟨h.1.drew, h.2.1.drew, h.2.2.1, below_drew1 h.2.2.2⟩
theorem RS.drewN {w0 : World} {g1 g2 gc : Nat} {cs : Array Value} {s : ByteArray} {e : Int} {l : ByteArray} {e' : Int} {w : World} (h : RS w0 g1 g2 gc cs s e l e' w) (n : Nat) : RS w0 g1 g2 gc cs s e l e' (w.drewN n) := ⟨h.1.drewN n, h.2.1.drewN n, h.2.2.1, pw_below_drewN h.2.2.2 n⟩

theorem RS.cell {w0 : World} {g1 g2 gc : Nat} {cs : Array Value} {s : ByteArray} {e : Int} {l : ByteArray} {e' : Int} {w : World} (h : RS w0 g1 g2 gc cs s e l e' w) (i : Nat) {v : Value} (hv : cs[i]? = some v) : w.cell? ⟨gc, i, none⟩ = some v := (blk_cell h.2.2.1 i).trans hv
theorem RS.l {w0 : World} {g1 g2 gc : Nat} {cs : Array Value} {s : ByteArray} {e : Int} {l : ByteArray} {e' : Int} {w : World} (h : RS w0 g1 g2 gc cs s e l e' w) {w1 : World} {s' : ByteArray} {e1 : Int} (h1 : IsS72 w0 w1 g1 s' e1) (hk : KeepBut w w1 g1 none) (hb : Below w0.heap.size w0 w1) : RS w0 g1 g2 gc cs s' e1 l e' w1 := by
  have n1 : g2 ≠ g1 := fun h9 => (IsS72.ne_blk h.1 h.2.1.1 (by decide)) h9.symm
  have n2 : gc ≠ g1 := fun h9 => (IsS72.ne_blk h.1 h.2.2.1 (by decide)) h9.symm
  exact ⟨h1, rx_keep h.2.1 hk n1, hk.blk h.2.2.1 n2 (by simp), hb⟩
theorem RS.r {w0 : World} {g1 g2 gc : Nat} {cs : Array Value} {s : ByteArray} {e : Int} {l : ByteArray} {e' : Int} {w : World} (h : RS w0 g1 g2 gc cs s e l e' w) {w1 : World} {l' : ByteArray} {e1 : Int} (h1 : IsS39 w0 w1 g2 l' e1) (hk : KeepBut w w1 g2 none) (hb : Below w0.heap.size w0 w1) : RS w0 g1 g2 gc cs s e l' e1 w1 := by
  have n1 : g1 ≠ g2 := IsS72.ne_blk h.1 h.2.1.1 (by decide)
  have n2 : gc ≠ g2 := fun h9 => (IsS39.ne_blk h.2.1 h.2.2.1 (by decide)) h9.symm
  exact ⟨rd_keep h.1 hk n1, h1, hk.blk h.2.2.1 n2 (by simp), hb⟩

theorem raw_rs (w0 : World) (g1 g2 gc : Nat) (cs : Array Value) (s : ByteArray) (e : Int) (l : ByteArray) (e' n : Int) (r1 : ByteArray) (r2 : ByteArray) (r3 : Int) (w : World) (hu : codec_Reader_Raw.f s e n = some (r1, r2, r3)) (h : RS w0 g1 g2 gc cs s e l e' w) :
    Calls Try.prog 28 #[.pointer (some ⟨g1, 0, none⟩), .int .i64 n] w fun x w' => x = .returned (.string r1) ∧ RS w0 g1 g2 gc cs r2 r3 l e' w' := by
  refine (codec_Reader_Raw.calls g1 s e n r1 r2 r3 w0 w h.1 h.2.2.2 hu).mono ?_
  rintro x w1 ⟨rfl, hI, hB, hK⟩
  exact ⟨rfl, h.l hI hK hB⟩
theorem rraw_rs (w0 : World) (g1 g2 gc : Nat) (cs : Array Value) (s : ByteArray) (e : Int) (l : ByteArray) (e' n : Int) (r1 : ByteArray) (r2 : ByteArray) (r3 : Int) (w : World) (hu : atriumlaw02_reading_raw.f l e' n = some (r1, r2, r3)) (h : RS w0 g1 g2 gc cs s e l e' w) :
    Calls Try.prog 42 #[.pointer (some ⟨g2, 0, none⟩), .int .i64 n] w fun x w' => x = .returned (.string r1) ∧ RS w0 g1 g2 gc cs s e r2 r3 w' := by
  refine (atriumlaw02_reading_raw.calls g2 l e' n r1 r2 r3 w0 w h.2.1 h.2.2.2 hu).mono ?_
  rintro x w1 ⟨rfl, hX, hB, hK⟩
  exact ⟨rfl, h.r hX hK hB⟩

set_option maxHeartbeats 2000000 in
theorem step_raw (w0 : World) (g1 g2 : Nat) (s l : ByteArray) (e n : Int) (t : ByteArray) (w : World) (hI : IsS72 w0 w g1 s e) (hX : IsS39 w0 w g2 l e) (hA : Agree s l e) (hs : s.size ≤ 281474976710656) (hl : l.size ≤ 281474976710656) (hB : Below w0.heap.size w0 w) :
    Calls Try.prog 19 #[.pointer (some ⟨g1, 0, none⟩), .pointer (some ⟨g2, 0, none⟩), .agg #[.int .i64 6, .int .u64 n, .string t]] w fun r w' => r = .returned (.bool true) ∧ Steps w0 g1 g2 w' := by
  have hu := Try.underlying41
  have HR := Aside0.mk (show RS w0 g1 g2 w.heap.size #[.int .i64 6, .int .u64 n, .string t] s e l e (w.alloc (.cells #[.int .i64 6, .int .u64 n, .string t] 41)) from ⟨IsS72.alloc hI _, IsS39.alloc hX _, blk_new w _, below_alloc hB _⟩)
  clear hI hX hB
  have Hu := Aside0.mk (raw_eq s e (IntKind.i64.wrap n))
  have Hx := Aside0.mk (rraw_eq l e (IntKind.i64.wrap n))
  obtain ⟨a1, a2, a3⟩ := raw_agree s l e (IntKind.i64.wrap n) hA
  have z1 := rawP_size s e (IntKind.i64.wrap n)
  have z2 := rawR_size l e (IntKind.i64.wrap n)
  have HA := Aside0.mk a3
  have Ha1 := Aside0.mk a1
  have Ha2 := Aside0.mk a2
  clear a1 a2 a3 hA
  generalize rawP s e (IntKind.i64.wrap n) = P at *
  obtain ⟨p1, p2, p3⟩ := P
  generalize rawR l e (IntKind.i64.wrap n) = R at *
  obtain ⟨r1, r2, r3⟩ := R
  have hE := Ha2.out
  have hE1 := Ha1.out
  dsimp only at hE hE1 z1 z2 Hu Hx HA
  subst hE hE1
  clear Ha1 Ha2
  have hc0 : (w.alloc (.cells #[.int .i64 6, .int .u64 n, .string t] 41 (0, 0))).drew.cell? ⟨w.heap.size, 1, none⟩ = some (.int .u64 n) := HR.out.drew.cell 1 rfl
  go_enter Try.func19, Try.ntmps19
  go_upto_region 15 with fail
  go_region_held3 (fun w' => w'.cell? ⟨w.heap.size, 1, none⟩ = some (.int .u64 n)) (first | exact hc1 | exact hc0 | go_keep) (first
    | (go_at_call 28; refine (raw_rs w0 g1 g2 w.heap.size #[.int .i64 6, .int .u64 n, .string t] s e _ _ (IntKind.i64.wrap n) p1 p2 p3 _ Hu.out (by with_reducible first | exact HR1.out | exact HR.out | exact RS.drew HR.out)).mono ?_; rintro e1 w1 ⟨rfl, hR⟩; have HR1 := Aside0.mk hR; have hc1 := hR.cell 1 rfl; clear hR)
    | (go_at_call 42; refine (rraw_rs w0 g1 g2 w.heap.size #[.int .i64 6, .int .u64 n, .string t] _ _ l e (IntKind.i64.wrap n) p1 r2 p3 _ Hx.out (by with_reducible first | exact HR1.out | exact HR.out | exact RS.drew HR.out)).mono ?_; rintro e1 w1 ⟨rfl, hR⟩; have HR1 := Aside0.mk hR; have hc1 := hR.cell 1 rfl; clear hR))
  go_wp2
  go_ret
  exact ⟨by simp, p2, r2, p3, HR1.out.1, HR1.out.2.1, HA.out, by omega, by omega, HR1.out.2.2.2⟩

theorem left_rs (w0 : World) (g1 g2 gc : Nat) (cs : Array Value) (s : ByteArray) (e : Int) (l : ByteArray) (e' : Int) (w : World) (h : RS w0 g1 g2 gc cs s e l e' w) :
    Calls Try.prog 17 #[.pointer (some ⟨g1, 0, none⟩)] w fun x w' => x = .returned (.int .i64 (if e = 0 then (s.size : Int) else 0)) ∧ RS w0 g1 g2 gc cs s e l e' w' := by
  refine (codec_Reader_Left.calls g1 s e _ s e w0 w h.1 h.2.2.2 (show codec_Reader_Left.f s e = some (if e = 0 then (s.size : Int) else 0, s, e) by unfold codec_Reader_Left.f; split <;> rfl)).mono ?_
  rintro x w1 ⟨rfl, hI, hB, hK⟩
  exact ⟨rfl, h.l hI hK hB⟩
theorem err_rs (w0 : World) (g1 g2 gc : Nat) (cs : Array Value) (s : ByteArray) (e : Int) (l : ByteArray) (e' : Int) (w : World) (h : RS w0 g1 g2 gc cs s e l e' w) :
    Calls Try.prog 18 #[.pointer (some ⟨g1, 0, none⟩)] w fun x w' => x = .returned (.int .i64 e) ∧ RS w0 g1 g2 gc cs s e l e' w' := by
  refine (codec_Reader_Err.calls g1 s e e s e w0 w h.1 h.2.2.2 rfl).mono ?_
  rintro x w1 ⟨rfl, hI, hB, hK⟩
  exact ⟨rfl, h.l hI hK hB⟩
theorem isEmpty_not (s : ByteArray) (h : ¬ s.size = 0) : s.toList.isEmpty = false := by
  have : s.data.toList.length ≠ 0 := by rw [Array.length_toList]; exact h
  rw [ByteArray.toList_eq]
  cases hl : s.data.toList with
  | nil => simp [hl] at this
  | cons a l => rfl
def restOf (s : ByteArray) (e : Int) : Int := if e = 0 then (if (s.size : Int) > 0 then 22 else 0) else e
theorem done_if (s : ByteArray) (e : Int) : (if e = 0 then (if (s.size : Int) > 0 then some ((22 : Int), s, e) else some (0, s, e)) else some (e, s, e)) = some (if e = 0 then (if (s.size : Int) > 0 then (22 : Int) else 0) else e, s, e) := by
  by_cases he : e = 0
  · rw [if_pos he, if_pos he]
    split <;> rfl
  · rw [if_neg he, if_neg he]
theorem done_rs (w0 : World) (g1 g2 gc : Nat) (cs : Array Value) (s : ByteArray) (e : Int) (l : ByteArray) (e' : Int) (w : World) (h : RS w0 g1 g2 gc cs s e l e' w) :
    Calls Try.prog 29 #[.pointer (some ⟨g1, 0, none⟩)] w fun x w' => x = .returned (.int .i64 (restOf s e)) ∧ RS w0 g1 g2 gc cs s e l e' w' := by
  refine (codec_Reader_Done.calls g1 s e (restOf s e) s e w0 w h.1 h.2.2.2 (by unfold codec_Reader_Done.f codec_Reader_Err.f restOf; rw [Option.bind_some]; dsimp only; exact done_if s e)).mono ?_
  rintro x w1 ⟨rfl, hI, hB, hK⟩
  exact ⟨rfl, h.l hI hK hB⟩

set_option maxHeartbeats 2000000 in
theorem step_look (w0 : World) (g1 g2 : Nat) (s l : ByteArray) (e kind n : Int) (t : ByteArray) (w : World) (hk : kind < 0 ∨ 6 < kind) (hI : IsS72 w0 w g1 s e) (hX : IsS39 w0 w g2 l e) (hA : Agree s l e) (hs : s.size ≤ 281474976710656) (hl : l.size ≤ 281474976710656) (hB : Below w0.heap.size w0 w) :
    Calls Try.prog 19 #[.pointer (some ⟨g1, 0, none⟩), .pointer (some ⟨g2, 0, none⟩), .agg #[.int .i64 kind, .int .u64 n, .string t]] w fun r w' => r = .returned (.bool true) ∧ Steps w0 g1 g2 w' := by
  have hu := Try.underlying41
  have hu2 := Try.underlying39
  have hup2 := Try.underlying37
  have HR := Aside0.mk (show RS w0 g1 g2 w.heap.size #[.int .i64 kind, .int .u64 n, .string t] s e l e (w.alloc (.cells #[.int .i64 kind, .int .u64 n, .string t] 41)) from ⟨IsS72.alloc hI _, IsS39.alloc hX _, blk_new w _, below_alloc hB _⟩)
  have HA := Aside0.mk hA
  clear hI hX hB
  have k0 : (kind == 0) = false := beq_eq_false_iff_ne.mpr (by omega)
  have k1 : (kind == 1) = false := beq_eq_false_iff_ne.mpr (by omega)
  have k2 : (kind == 2) = false := beq_eq_false_iff_ne.mpr (by omega)
  have k3 : (kind == 3) = false := beq_eq_false_iff_ne.mpr (by omega)
  have k4 : (kind == 4) = false := beq_eq_false_iff_ne.mpr (by omega)
  have k5 : (kind == 5) = false := beq_eq_false_iff_ne.mpr (by omega)
  have k6 : (kind == 6) = false := beq_eq_false_iff_ne.mpr (by omega)
  have hc0 : (w.alloc (.cells #[.int .i64 kind, .int .u64 n, .string t] 41 (0, 0))).cell? ⟨g2, 0, none⟩ = some (.string l) := (blk_cell HR.out.2.1.1 0).trans rfl
  have hc1 : (w.alloc (.cells #[.int .i64 kind, .int .u64 n, .string t] 41 (0, 0))).cell? ⟨g2, 1, none⟩ = some (.int .i64 e) := (blk_cell HR.out.2.1.1 1).trans rfl
  clear hk
  by_cases he : e = 0
  · subst he
    obtain rfl := hA.1 rfl
    clear hA
    by_cases hz : s.size = 0
    · obtain rfl : s = ⟨#[]⟩ := by
        rcases s with ⟨⟨l⟩⟩
        cases l with
        | nil => rfl
        | cons a l => cases hz
      have HD := Aside0.mk (show restOf ⟨#[]⟩ 0 = 0 from rfl)
      go_enter Try.func19, Try.ntmps19
      go_upto_region 19 with fail
      go_region_held3 (fun w' => w'.cell? ⟨g2, 0, none⟩ = some (.string ⟨#[]⟩) ∧ w'.cell? ⟨g2, 1, none⟩ = some (.int .i64 0)) (first | exact ⟨hd0, hd1⟩ | exact ⟨hc0, hc1⟩ | go_keep) (first
        | (go_at_call 17; refine (left_rs w0 g1 g2 w.heap.size _ ⟨#[]⟩ 0 ⟨#[]⟩ 0 _ (by with_reducible first | exact HR1.out | exact HR.out | exact RS.drew HR.out | exact RS.drewN HR.out _)).mono ?_; rw [if_pos rfl]; rintro e1 w1 ⟨rfl, hR⟩; have HR1 := Aside0.mk hR; have hd0 : w1.cell? ⟨g2, 0, none⟩ = some (.string ⟨#[]⟩) := (blk_cell hR.2.1.1 0).trans rfl; have hd1 : w1.cell? ⟨g2, 1, none⟩ = some (.int .i64 0) := (blk_cell hR.2.1.1 1).trans rfl; clear hR)
        | (go_at_call 18; refine (err_rs w0 g1 g2 w.heap.size _ ⟨#[]⟩ 0 ⟨#[]⟩ 0 _ (by with_reducible first | exact HR1.out | exact HR.out | exact RS.drew HR.out | exact RS.drewN HR.out _)).mono ?_; rintro e1 w1 ⟨rfl, hR⟩; have HR1 := Aside0.mk hR; have hd0 : w1.cell? ⟨g2, 0, none⟩ = some (.string ⟨#[]⟩) := (blk_cell hR.2.1.1 0).trans rfl; have hd1 : w1.cell? ⟨g2, 1, none⟩ = some (.int .i64 0) := (blk_cell hR.2.1.1 1).trans rfl; clear hR)
        | (go_at_call 29; refine (done_rs w0 g1 g2 w.heap.size _ ⟨#[]⟩ 0 ⟨#[]⟩ 0 _ (by with_reducible first | exact HR1.out | exact HR.out | exact RS.drew HR.out | exact RS.drewN HR.out _)).mono ?_; rw [HD.out]; rintro e1 w1 ⟨rfl, hR⟩; have HR1 := Aside0.mk hR; have hd0 : w1.cell? ⟨g2, 0, none⟩ = some (.string ⟨#[]⟩) := (blk_cell hR.2.1.1 0).trans rfl; have hd1 : w1.cell? ⟨g2, 1, none⟩ = some (.int .i64 0) := (blk_cell hR.2.1.1 1).trans rfl; clear hR))
      go_wp2
      go_ret
      exact ⟨by simp, ⟨#[]⟩, ⟨#[]⟩, 0, HR1.out.1, HR1.out.2.1, HA.out, by omega, by omega, HR1.out.2.2.2⟩
    · have hne : (!s.toList.isEmpty) = true := by
        rw [isEmpty_not s hz]; rfl
      have HD := Aside0.mk (show restOf s 0 = 22 by unfold restOf; rw [if_pos rfl, if_pos (by omega)])
      clear hz
      go_enter Try.func19, Try.ntmps19
      go_upto_region 19 with fail
      go_region_held3 (fun w' => w'.cell? ⟨g2, 0, none⟩ = some (.string s) ∧ w'.cell? ⟨g2, 1, none⟩ = some (.int .i64 0)) (first | exact ⟨hd0, hd1⟩ | exact ⟨hc0, hc1⟩ | go_keep) (first
        | (go_at_call 17; refine (left_rs w0 g1 g2 w.heap.size _ s 0 s 0 _ (by with_reducible first | exact HR1.out | exact HR.out | exact RS.drew HR.out | exact RS.drewN HR.out _)).mono ?_; rw [if_pos rfl]; rintro e1 w1 ⟨rfl, hR⟩; have HR1 := Aside0.mk hR; have hd0 : w1.cell? ⟨g2, 0, none⟩ = some (.string s) := (blk_cell hR.2.1.1 0).trans rfl; have hd1 : w1.cell? ⟨g2, 1, none⟩ = some (.int .i64 0) := (blk_cell hR.2.1.1 1).trans rfl; clear hR)
        | (go_at_call 18; refine (err_rs w0 g1 g2 w.heap.size _ s 0 s 0 _ (by with_reducible first | exact HR1.out | exact HR.out | exact RS.drew HR.out | exact RS.drewN HR.out _)).mono ?_; rintro e1 w1 ⟨rfl, hR⟩; have HR1 := Aside0.mk hR; have hd0 : w1.cell? ⟨g2, 0, none⟩ = some (.string s) := (blk_cell hR.2.1.1 0).trans rfl; have hd1 : w1.cell? ⟨g2, 1, none⟩ = some (.int .i64 0) := (blk_cell hR.2.1.1 1).trans rfl; clear hR)
        | (go_at_call 29; refine (done_rs w0 g1 g2 w.heap.size _ s 0 s 0 _ (by with_reducible first | exact HR1.out | exact HR.out | exact RS.drew HR.out | exact RS.drewN HR.out _)).mono ?_; rw [HD.out]; rintro e1 w1 ⟨rfl, hR⟩; have HR1 := Aside0.mk hR; have hd0 : w1.cell? ⟨g2, 0, none⟩ = some (.string s) := (blk_cell hR.2.1.1 0).trans rfl; have hd1 : w1.cell? ⟨g2, 1, none⟩ = some (.int .i64 0) := (blk_cell hR.2.1.1 1).trans rfl; clear hR))
      go_wp2
      go_ret
      exact ⟨by simp, s, s, 0, HR1.out.1, HR1.out.2.1, HA.out, by omega, by omega, HR1.out.2.2.2⟩
  · obtain rfl := hA.2 he
    clear hA
    have He := Aside0.mk he
    have he2 : (e == 0) = false := beq_eq_false_iff_ne.mpr he
    have HD := Aside0.mk (show restOf s e = e by unfold restOf; rw [if_neg he])
    clear he
    go_enter Try.func19, Try.ntmps19
    go_upto_region 19 with fail
    go_region_held3 (fun w' => w'.cell? ⟨g2, 0, none⟩ = some (.string ⟨#[]⟩) ∧ w'.cell? ⟨g2, 1, none⟩ = some (.int .i64 e)) (first | exact ⟨hd0, hd1⟩ | exact ⟨hc0, hc1⟩ | go_keep) (first
      | (go_at_call 17; refine (left_rs w0 g1 g2 w.heap.size _ s e ⟨#[]⟩ e _ (by with_reducible first | exact HR1.out | exact HR.out | exact RS.drew HR.out | exact RS.drewN HR.out _)).mono ?_; rw [if_neg He.out]; rintro e1 w1 ⟨rfl, hR⟩; have HR1 := Aside0.mk hR; have hd0 : w1.cell? ⟨g2, 0, none⟩ = some (.string ⟨#[]⟩) := (blk_cell hR.2.1.1 0).trans rfl; have hd1 : w1.cell? ⟨g2, 1, none⟩ = some (.int .i64 e) := (blk_cell hR.2.1.1 1).trans rfl; clear hR)
      | (go_at_call 18; refine (err_rs w0 g1 g2 w.heap.size _ s e ⟨#[]⟩ e _ (by with_reducible first | exact HR1.out | exact HR.out | exact RS.drew HR.out | exact RS.drewN HR.out _)).mono ?_; rintro e1 w1 ⟨rfl, hR⟩; have HR1 := Aside0.mk hR; have hd0 : w1.cell? ⟨g2, 0, none⟩ = some (.string ⟨#[]⟩) := (blk_cell hR.2.1.1 0).trans rfl; have hd1 : w1.cell? ⟨g2, 1, none⟩ = some (.int .i64 e) := (blk_cell hR.2.1.1 1).trans rfl; clear hR)
      | (go_at_call 29; refine (done_rs w0 g1 g2 w.heap.size _ s e ⟨#[]⟩ e _ (by with_reducible first | exact HR1.out | exact HR.out | exact RS.drew HR.out | exact RS.drewN HR.out _)).mono ?_; rw [HD.out]; rintro e1 w1 ⟨rfl, hR⟩; have HR1 := Aside0.mk hR; have hd0 : w1.cell? ⟨g2, 0, none⟩ = some (.string ⟨#[]⟩) := (blk_cell hR.2.1.1 0).trans rfl; have hd1 : w1.cell? ⟨g2, 1, none⟩ = some (.int .i64 e) := (blk_cell hR.2.1.1 1).trans rfl; clear hR))
    go_wp2
    go_ret
    exact ⟨by simp, s, ⟨#[]⟩, e, HR1.out.1, HR1.out.2.1, HA.out, by omega, by omega, HR1.out.2.2.2⟩

theorem step_any (w0 : World) (g1 g2 : Nat) (s l : ByteArray) (e kind n : Int) (t : ByteArray) (w : World) (h0 : 0 ≤ n) (h1 : n < 18446744073709551616) (hI : IsS72 w0 w g1 s e) (hX : IsS39 w0 w g2 l e) (hA : Agree s l e) (hs : s.size ≤ 281474976710656) (hl : l.size ≤ 281474976710656) (hB : Below w0.heap.size w0 w) :
    Calls Try.prog 19 #[.pointer (some ⟨g1, 0, none⟩), .pointer (some ⟨g2, 0, none⟩), .agg #[.int .i64 kind, .int .u64 n, .string t]] w fun r w' => r = .returned (.bool true) ∧ Steps w0 g1 g2 w' := by
  by_cases hk : kind < 0 ∨ 6 < kind
  · exact step_look w0 g1 g2 s l e kind n t w hk hI hX hA hs hl hB
  · have hc : kind = 0 ∨ kind = 1 ∨ kind = 2 ∨ kind = 3 ∨ kind = 4 ∨ kind = 5 ∨ kind = 6 := by omega
    rcases hc with rfl | rfl | rfl | rfl | rfl | rfl | rfl
    · exact step_u8 w0 g1 g2 s l e n t w hI hX hA hs hl hB
    · exact step_u16 w0 g1 g2 s l e n t w hI hX hA hs hl hB
    · exact step_u32 w0 g1 g2 s l e n t w hI hX hA hs hl hB
    · exact step_u64 w0 g1 g2 s l e n t w hI hX hA hs hl hB
    · exact step_varint w0 g1 g2 s l e n t w hI hX hA hs hl hB
    · exact step_text w0 g1 g2 s l e n t w hI hX hA hs hl hB
    · exact step_raw w0 g1 g2 s l e n t w hI hX hA hs hl hB
end Go.Proofs.Ytjlohahknngmmaa
