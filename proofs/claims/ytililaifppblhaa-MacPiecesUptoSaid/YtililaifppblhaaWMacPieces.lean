/- Walk: MacPieces: a text has the same sum however it is cut into pieces, wherever one asks, and whatever is written to forks. -/
import Derived.Test.YtililaifppblhaaAwk
import Derived.Test.YtililaifppblhaaTy
import Derived.Test.YtililaifppblhaaOpen
import Derived.Outline
import Derived.BigRegion
import Derived.BigQuiet
import Derived.Deep.QuietTactic
import Derived.Deep.RegionHeld3
namespace Go.Proofs.Ytililaifppblhaa.Sha
open Go Go.RowKit Go.Proofs.Ytililaifppblhaa Go.Proofs.YtililaifppblhaaW.PrintWords
open Go.Proofs.Ytililaifppblhaa.Ty
set_option linter.unusedVariables false
set_option linter.unusedSimpArgs false

/-- The law's state: a Hasher behind m1, a slice of bytes that holds m2. -/
structure QP (w0 : World) (h : Nat) (v : Value) (m1 m2 : List UInt8) (w : World) : Prop where
  hx : HX h m1 m1.length w
  ow : w.ownsRowF w0.heap.size 5 1 v m2.length (Lib.byteCells m2)
  ne : v.ownBlock ≠ some h
  be : Below w0.heap.size w0 w
  lt : w0.heap.size ≤ h
theorem ownsF_lt {w : World} {B : Nat} {e : TypeId} {v : Value} {n : Nat} {xs : List Value} (h : w.ownsRowF B e 1 v n xs) : ∀ g, v.ownBlock = some g → B ≤ g ∧ g < w.heap.size := by
  intro g hg
  rcases h.2 with ⟨rfl, _⟩ | ⟨g', cap, cur, fz, rfl, h1, h2, _⟩
  · simp [Value.ownBlock] at hg
  · simp [Value.ownBlock] at hg
    subst hg
    exact ⟨h1, (Array.getElem?_eq_some_iff.1 h2).1⟩
theorem ownsF_kept {w w1 : World} {B : Nat} {e : TypeId} {v : Value} {n : Nat} {xs : List Value} (h : w.ownsRowF B e 1 v n xs) (hk : ∀ g, v.ownBlock = some g → w1.heap[g]? = w.heap[g]?) : w1.ownsRowF B e 1 v n xs := by
  refine ⟨h.1, ?_⟩
  rcases h.2 with h2 | ⟨g', cap, cur, fz, rfl, h1, h2, rest⟩
  · exact .inl h2
  · exact .inr ⟨g', cap, cur, fz, rfl, h1, (hk g' rfl).trans h2, rest⟩
theorem QP.below {w0 : World} {h : Nat} {v : Value} {m1 m2 : List UInt8} {w w1 : World} (H : QP w0 h v m1 m2 w) (hb : Below w.heap.size w w1) : QP w0 h v m1 m2 w1 :=
  ⟨H.hx.kept (hb.block _ H.hx.lt), ownsF_kept H.ow fun g hg => hb.block g (ownsF_lt H.ow g hg).2, H.ne, H.be.trans (hb.mono H.be.size), H.lt⟩
theorem QP.alloc {w0 : World} {h : Nat} {v : Value} {m1 m2 : List UInt8} {w : World} (H : QP w0 h v m1 m2 w) (o : Obj) : QP w0 h v m1 m2 (w.alloc o) := H.below ((Below.refl _ _).alloc (Nat.le_refl _) _)
theorem QP.drew {w0 : World} {h : Nat} {v : Value} {m1 m2 : List UInt8} {w : World} (H : QP w0 h v m1 m2 w) : QP w0 h v m1 m2 w.drew := H.below (Below.refl _ _).drew
theorem QP.drewN {w0 : World} {h : Nat} {v : Value} {m1 m2 : List UInt8} {w : World} (H : QP w0 h v m1 m2 w) (n : Nat) : QP w0 h v m1 m2 (w.drewN n) := H.below (pw_below_drewN (Below.refl _ _) n)
/-- Something is written to the Hasher. -/
theorem QP.wrote {w0 : World} {h : Nat} {v : Value} {m1 m2 s : List UInt8} {w w1 : World} (H : QP w0 h v m1 m2 w) (hx : HX h (m1 ++ s) (m1.length + s.length) w1) (hk : Kb h w w1) : QP w0 h v (m1 ++ s) m2 w1 :=
  ⟨by rw [List.length_append]; exact hx, ownsF_kept H.ow fun g hg => hk.block g (ownsF_lt H.ow g hg).2 (fun e => H.ne (e ▸ hg)), H.ne, kb_below H.be hk H.lt H.be.size, H.lt⟩
/-- A fork, whose elder goes another way. -/
theorem QP.forked {w0 : World} {h : Nat} {v : Value} {m1 m2 : List UInt8} {w w1 w2 : World} {S : S8} {R : List UInt8} {n : Nat} (H : QP w0 h v m1 m2 w) (hb : Below w.heap.size w w1) (hc : HX w.heap.size m1 m1.length w1) (hk : Kb h w1 w2) : QP w0 w.heap.size v m1 m2 w2 := by
  have H1 := H.below hb
  have hl := H.hx.lt
  refine ⟨hc.kept (hk.block _ hc.lt (by omega)), ownsF_kept H1.ow fun g hg => hk.block g (ownsF_lt H1.ow g hg).2 (fun e => H.ne (e ▸ hg)), fun e => ?_, kb_below H1.be hk H.lt H1.be.size, H.be.size⟩
  have := (ownsF_lt H.ow _ e).2
  omega
theorem QP.app {w0 : World} {h : Nat} {v v1 : Value} {m1 m2 : List UInt8} {s : ByteArray} {w w1 : World} (H : QP w0 h v m1 m2 w) (ho : w1.ownsRowF w0.heap.size 5 1 v1 (m2.length + s.size) (Lib.byteCells m2 ++ Lib.strCells s)) (hg : w.grownBy w1 v.ownBlock) : QP w0 h v1 m1 (m2 ++ s.data.toList) w1 := by
  have hl := H.hx.lt
  have hx := H.hx.kept (hg.block h hl (fun e => H.ne e.symm))
  refine ⟨hx, ?_, fun e => ?_, H.be.grown hg H.be.size (fun k hk => (ownsF_lt H.ow k hk).1), H.lt⟩
  · rw [List.length_append, Array.length_toList, Lib.byteCells_append, ← Lib.strCells_eq]
    exact ho
  · obtain ⟨S, R, n, hB, _⟩ := hx
    rcases ho.2 with ⟨rfl, _⟩ | ⟨g', cap, cur, fz, rfl, h1, h2, _⟩
    · simp [Value.ownBlock] at e
    · simp [Value.ownBlock] at e
      subst e
      have h3 := hB.row
      rw [h2] at h3
      injection h3 with h3
      injection h3 with _ h4
      exact absurd h4 (by decide)
/-- string(all). -/
theorem QP.text {w0 : World} {h : Nat} {ad : Option Addr} {n c : Nat} {m1 m2 : List UInt8} {w : World} (H : QP w0 h (.slice ad n c) m1 m2 w) : (convert 28 9 (.slice ad n c)).run Try.prog w = .ok (.string ⟨m2.toArray⟩) w := by
  have ho := H.ow
  rcases ho.2 with ⟨h1, h2⟩ | ⟨g', cap, cur, fz, h1, h2, h3, h4, h5, h6, h7, h8⟩
  · injection h1 with e1 e2 e3
    subst e1 e2 e3
    have : m2 = [] := List.eq_nil_of_length_eq_zero h2
    subst this
    exact ownG_text (ownG_nil w 0 _ _)
  · injection h1 with e1 e2 e3
    subst e1 e2 e3
    rw [Nat.mul_one] at h8
    have hcv := run_convert_bytes_arg (P := Try.prog) w 28 5 Try.underlying28 Try.underlying5 g' 0 m2.length c (nb m2) (nb_len m2) (fun i hi => by
      rw [Nat.zero_add, cell_of_row _ _ _ _ _ _ h3]
      have h5 : cur.toList[i]? = (Lib.byteCells m2)[i]? := by
        rw [← h8, List.getElem?_take, if_pos hi]
      rw [← Array.getElem?_toList, h5]
      simp [Lib.byteCells, nb, List.getElem?_eq_getElem hi]) 9 Try.underlying9
    rw [← row_str]
    exact hcv
theorem shapeF {w : World} {B : Nat} {e : TypeId} {v : Value} {n : Nat} {xs : List Value} (h : w.ownsRowF B e 1 v n xs) : ∃ ad c, v = .slice ad n c := by
  rcases h.2 with ⟨rfl, rfl⟩ | ⟨g', cap, cur, fz, rfl, _⟩
  · exact ⟨_, _, rfl⟩
  · exact ⟨_, _, rfl⟩
/-- .. and the piece that is looked at. -/
structure QR (w0 : World) (g h : Nat) (cs : Array Value) (v : Value) (m1 m2 : List UInt8) (w : World) : Prop where
  q : QP w0 h v m1 m2 w
  row : w.heap[g]? = some (.cells cs 30 (0, 0))
  ne : g ≠ h
  nv : v.ownBlock ≠ some g
theorem QR.lt {w0 : World} {g h : Nat} {cs : Array Value} {v : Value} {m1 m2 : List UInt8} {w : World} (H : QR w0 g h cs v m1 m2 w) : g < w.heap.size := (Array.getElem?_eq_some_iff.1 H.row).1
theorem QR.below {w0 : World} {g h : Nat} {cs : Array Value} {v : Value} {m1 m2 : List UInt8} {w w1 : World} (H : QR w0 g h cs v m1 m2 w) (hb : Below w.heap.size w w1) : QR w0 g h cs v m1 m2 w1 :=
  ⟨H.q.below hb, (hb.block _ H.lt).trans H.row, H.ne, H.nv⟩
theorem QR.drew {w0 : World} {g h : Nat} {cs : Array Value} {v : Value} {m1 m2 : List UInt8} {w : World} (H : QR w0 g h cs v m1 m2 w) : QR w0 g h cs v m1 m2 w.drew := H.below (Below.refl _ _).drew
theorem QR.drewN {w0 : World} {g h : Nat} {cs : Array Value} {v : Value} {m1 m2 : List UInt8} {w : World} (H : QR w0 g h cs v m1 m2 w) (n : Nat) : QR w0 g h cs v m1 m2 (w.drewN n) := H.below (pw_below_drewN (Below.refl _ _) n)
theorem QR.wrote {w0 : World} {g h : Nat} {cs : Array Value} {v : Value} {m1 m2 s : List UInt8} {w w1 : World} (H : QR w0 g h cs v m1 m2 w) (hx : HX h (m1 ++ s) (m1.length + s.length) w1) (hk : Kb h w w1) : QR w0 g h cs v (m1 ++ s) m2 w1 :=
  ⟨H.q.wrote hx hk, (hk.block _ H.lt H.ne).trans H.row, H.ne, H.nv⟩
theorem QR.forked {w0 : World} {g h : Nat} {cs : Array Value} {v : Value} {m1 m2 : List UInt8} {w w1 w2 : World} (H : QR w0 g h cs v m1 m2 w) (hb : Below w.heap.size w w1) (hc : HX w.heap.size m1 m1.length w1) (hk : Kb h w1 w2) : QR w0 g w.heap.size cs v m1 m2 w2 := by
  have hl := H.lt
  have hz := hb.size
  exact ⟨QP.forked (S := first8) (R := []) (n := 0) H.q hb hc hk, (hk.block _ (by omega) H.ne).trans ((hb.block _ hl).trans H.row), by omega, H.nv⟩
theorem QR.app {w0 : World} {g h : Nat} {cs : Array Value} {v v1 : Value} {m1 m2 : List UInt8} {s : ByteArray} {w w1 : World} (H : QR w0 g h cs v m1 m2 w) (ho : w1.ownsRowF w0.heap.size 5 1 v1 (m2.length + s.size) (Lib.byteCells m2 ++ Lib.strCells s)) (hg : w.grownBy w1 v.ownBlock) : QR w0 g h cs v1 m1 (m2 ++ s.data.toList) w1 := by
  have hr := (hg.block g H.lt (fun e => H.nv e.symm)).trans H.row
  refine ⟨H.q.app ho hg, hr, H.ne, fun e => ?_⟩
  rcases ho.2 with ⟨rfl, _⟩ | ⟨g', cap, cur, fz, rfl, h1, h2, _⟩
  · simp [Value.ownBlock] at e
  · simp [Value.ownBlock] at e
    subst e
    rw [h2] at hr
    injection hr with h3
    injection h3 with _ h4
    exact absurd h4 (by decide)
theorem QR.c {w0 : World} {g h : Nat} {cs : Array Value} {v : Value} {m1 m2 : List UInt8} {w : World} (H : QR w0 g h cs v m1 m2 w) (i : Nat) (x : Value) (hx : cs[i]? = some x) : w.cell? ⟨g, i, none⟩ = some x := (cell_of_row _ _ _ _ _ _ H.row).trans hx
theorem qr_new {w0 : World} {h : Nat} {v : Value} {m1 m2 : List UInt8} {w : World} (H : QP w0 h v m1 m2 w) (cs : Array Value) : QR w0 w.heap.size h cs v m1 m2 (w.alloc (.cells cs 30)) := by
  have hl := H.hx.lt
  refine ⟨H.alloc _, heap_alloc_new _ _, by omega, fun e => ?_⟩
  have := (ownsF_lt H.ow _ e).2
  omega
/-- The text of some pieces. -/
def msgOf (l : List S30) : List UInt8 := l.flatMap fun x => x.f0.data.toList
theorem msgOf_step (l : List S30) (k : Nat) (h : k < l.length) : msgOf (l.take (k + 1)) = msgOf (l.take k) ++ (rd_T30 l (k : Int)).f0.data.toList := by
  unfold msgOf rd_T30
  rw [List.take_succ_eq_append_getElem h, List.flatMap_append, Int.toNat_natCast, List.getD_eq_getElem?_getD, List.getElem?_eq_getElem h]
  simp
theorem msgOf_le : ∀ (l : List S30), (msgOf l).length ≤ Opn.lwt (fun x => ((x.f0.size + 1) + (1 + 1)) + 1) l
  | [] => Nat.zero_le _
  | x :: l => by
    have h := msgOf_le l
    have e : x.f0.data.toList.length = x.f0.size := Array.length_toList
    unfold msgOf at h ⊢
    rw [List.flatMap_cons, List.length_append, e, Opn.lwt]
    omega
theorem msgOf_take (l : List S30) (k : Nat) : (msgOf (l.take k)).length ≤ (msgOf l).length := by
  have e : msgOf l = msgOf (l.take k) ++ msgOf (l.drop k) := by
    unfold msgOf
    rw [← List.flatMap_append, List.take_append_drop]
  rw [e, List.length_append]; omega
set_option maxHeartbeats 4000000 in
set_option maxRecDepth 100000 in
theorem pieces_any (A : Option Addr) (c : Nat) (l : List S30) (w : World) (hC : Kd.C k30 w A l.length l) (hs : (msgOf l).length ≤ 1048576) :
    Calls Try.prog 4 #[.slice A l.length c] w fun e w' => e = .returned (.bool true) ∧ Below w.heap.size w w' := by
  have hu := Try.underlying30
  have hup := Try.underlying26
  have hlen : l.length ≤ 9223372036854775807 := by have := hC.2.1; unfold maxLen at this; omega
  have HC := Aside0.mk hC
  have HS := Aside0.mk hs
  clear hC hs
  go_enter Try.func4, Try.ntmps4
  go_wp2_with fail
  refine (new_any _).mono ?_
  rintro e1 w1 ⟨h, rfl, hh, H1, hb1⟩
  have HQ := Aside0.mk (show QP w h (.slice none 0 0) [] [] w1 from ⟨hx_new H1, ⟨rfl, .inl ⟨rfl, rfl⟩⟩, by simp [Value.ownBlock], hb1, hh⟩)
  clear H1 hb1 hh
  go_wp2_with fail
  refine (awake_any _).mono ?_
  rintro e2 w2 ⟨rfl, hb⟩
  have HQ2 := Aside0.mk (HQ.out.below hb)
  clear hb HQ
  go_wp2
  go_loopw [3, 4, 17] (fun hv bv iv wr => ∃ k h : Nat, k ≤ l.length ∧ iv = .int .i64 k ∧ hv = .pointer (some ⟨h, 0, none⟩) ∧ Aside0 (QP w h bv (msgOf (l.take k)) (msgOf (l.take k)) wr)) (fun _ _ iv _ => l.length - (intOf iv).toNat)
  case atStart => exact ⟨0, h, Nat.zero_le _, rfl, rfl, HQ2⟩
  case round =>
    clear HQ2
    obtain ⟨k, h, hk, rfl, rfl, HQ⟩ := hrel
    obtain ⟨ad0, cp0, hv0⟩ := shapeF HQ.out.ow
    subst hv0
    by_cases hlt : k < l.length
    · obtain ⟨ad, rfl, c0, c1, c2⟩ := at_T30 (Kd.C_below HC.out HQ.out.be) (k : Int) (by omega) (by omega)
      have hst := msgOf_step l k hlt
      have htk := msgOf_take l (k + 1)
      rw [hst, List.length_append] at htk
      have hts := HS.out
      obtain ⟨P, hP⟩ : ∃ P, rd_T30 l (k : Int) = P := ⟨_, rfl⟩
      rw [hP] at hst htk c0 c1 c2
      obtain ⟨tx, fork, ask⟩ := P
      dsimp only at hst htk c0 c1 c2
      rw [Int.toNat_natCast] at c0 c1 c2
      have Hst := Aside0.mk hst
      obtain ⟨M, hM⟩ : ∃ M, msgOf (l.take k) = M := ⟨_, rfl⟩
      rw [hM] at HQ Hst htk
      have Htk := Aside0.mk (show M.length + tx.size ≤ 1048576 by have e : tx.data.toList.length = tx.size := Array.length_toList; omega)
      rw [hM]
      clear hst htk hts hM hP
      have HR := Aside0.mk (qr_new HQ.out #[.string tx, .bool fork, .bool ask])
      have d1 : (wr.alloc (.cells #[.string tx, .bool fork, .bool ask] 30)).cell? ⟨wr.heap.size, 1, none⟩ = some (.bool fork) := HR.out.c 1 _ rfl
      go_upto_region 8 with fail
      clear HQ c0 c1 c2
      generalize wr.alloc (.cells #[.string tx, .bool fork, .bool ask] 30) = W1 at HR d1 ⊢
      obtain ⟨g, hg⟩ : ∃ g, wr.heap.size = g := ⟨_, rfl⟩
      rw [hg] at HR d1 ⊢
      clear hg
      obtain ⟨CS, hCS⟩ : ∃ CS : Array Value, CS = #[.string tx, .bool fork, .bool ask] := ⟨_, rfl⟩
      have C0 : Aside0 (CS[0]? = some (.string tx)) := ⟨by rw [hCS]; rfl⟩
      have C2 : Aside0 (CS[2]? = some (.bool ask)) := ⟨by rw [hCS]; rfl⟩
      rw [← hCS] at HR
      have d0 : W1.cell? ⟨g, 0, none⟩ = some (.string tx) := HR.out.c 0 _ C0.out
      clear hCS
      cases fork
      rotate_left
      go_wp2_with fail
      obtain ⟨S, R, n, HB, Ha⟩ := HR.out.q.hx
      have Ha := Aside0.mk Ha
      refine (fork_any h S R n _ W1 HB).mono ?_
      rintro e3 w3 ⟨rfl, hc, hh, hb, _⟩
      have Hb3 := Aside0.mk hb
      have Hc3 := Aside0.mk (show HX W1.heap.size M M.length w3 from ⟨S, R, n, hc, Ha.out⟩)
      have Hh3 := Aside0.mk (show HX h M M.length w3 from ⟨S, R, n, hh, Ha.out⟩)
      clear hc hh hb HB Ha
      go_wp2_with fail
      refine (write_any h M M.length ⟨#[111, 116, 104, 101, 114]⟩ w3 Hh3.out (by decide) (by have := Htk.out; omega)).mono ?_
      rintro e4 w4 ⟨rfl, _, hk4⟩
      have HR4 := Aside0.mk (HR.out.forked Hb3.out Hc3.out hk4)
      clear hk4 Hb3 Hc3 Hh3 HR d0 d1
      generalize W1.heap.size = hq at HR4 ⊢
      have d0 : w4.cell? ⟨g, 0, none⟩ = some (.string tx) := HR4.out.c 0 _ C0.out
      go_wp2_with fail
      rotate_left
      have HR4 := HR
      clear HR d1
      obtain ⟨hq, hhq⟩ : ∃ hq, hq = h := ⟨_, rfl⟩
      subst hhq
      all_goals
        refine (write_any _ M M.length tx _ HR4.out.q.hx (by have := Htk.out; omega) (by have := Htk.out; omega)).mono ?_
        rintro e5 w5 ⟨rfl, hx5, hk5⟩
        have HR5 := Aside0.mk (HR4.out.wrote (s := tx.data.toList) (by rw [Array.length_toList]; exact hx5) hk5)
        clear hx5 hk5 d0 HR4
        have d0 : w5.cell? ⟨g, 0, none⟩ = some (.string tx) := HR5.out.c 0 _ C0.out
        obtain ⟨i0, hi0, hz0, hz1, hz2⟩ := info_parts infoByte
        go_wp2_with (at_builtin; refine Lib.wpList_append_own_stringF _ rfl _ _ 28 9 rfl w.heap.size 5 i0 Try.underlying28 Try.underlying9 hi0 hz0 hz1 hz2 _ _ _ rfl HR5.out.q.ow tx rfl ?c3 ?c4 ?c5 ?_)
        case c3 => unfold maxLen; have := Htk.out; omega
        case c4 => have := Htk.out; omega
        case c5 => exact HR5.out.q.be.size
        intro v1 w6 ho hg _
        obtain ⟨ad1, cp1, hv1⟩ := shapeF ho
        have HR6 := Aside0.mk (HR5.out.app ho hg)
        subst hv1
        clear ho hg HR5 d0 hi0 hz0 hz1 hz2
        have hMl : (M ++ tx.data.toList).length = M.length + tx.size := by rw [List.length_append, Array.length_toList]; rfl
        have HMl := Aside0.mk hMl
        have hMb : (M ++ tx.data.toList).length ≤ 1048576 := by rw [hMl]; exact Htk.out
        rw [← hMl]
        rw [← hMl] at HR6
        rw [← Hst.out] at hMb HR6 ⊢
        obtain ⟨M2, hM2⟩ : ∃ M2, msgOf (l.take (k + 1)) = M2 := ⟨_, rfl⟩
        have HM2 := Aside0.mk hM2
        rw [hM2] at hMb HR6 ⊢
        have Hmb := Aside0.mk hMb
        have d2 : w6.cell? ⟨g, 2, none⟩ = some (.bool ask) := HR6.out.c 2 _ C2.out
        clear hMl hM2 hMb
        obtain ⟨X, hX⟩ : ∃ X : ByteArray, (⟨M2.toArray⟩ : ByteArray) = X := ⟨_, rfl⟩
        obtain ⟨Y, hY⟩ : ∃ Y : ByteArray, (⟨(sumV M2).toArray⟩ : ByteArray) = Y := ⟨_, rfl⟩
        have HTx := Aside0.mk (fun wx (H : QR w g hq CS (.slice ad1 M2.length cp1) M2 M2 wx) => H.q.text)
        rw [hX] at HTx
        have HSm := Aside0.mk (fun wx (H : QR w g hq CS (.slice ad1 M2.length cp1) M2 M2 wx) => sum_any hq M2 wx H.q.hx (by have := Hmb.out; omega))
        rw [hY] at HSm
        have HRf := Aside0.mk (fun wx => ref_sum_any X wx (by rw [← hX]; show M2.toArray.size ≤ _; rw [List.size_toArray]; have := Hmb.out; omega))
        rw [show (⟨(sumV X.data.toList).toArray⟩ : ByteArray) = Y by rw [← hX, ← hY]] at HRf
        have HLn := Aside0.mk (fun wx (H : QR w g hq CS (.slice ad1 M2.length cp1) M2 M2 wx) => by
          obtain ⟨S, R, n, HB, _⟩ := H.q.hx
          exact len_any hq S R n _ wx HB)
        have k1 := HTx.out _ HR6.out.drew
        clear hX hY
        cases ask
        · go_upto_region 16 with fail
          go_quiet (fail)
          go_wp2
          go_roundw
          case rel =>
            refine ⟨k + 1, hq, by omega, by go_num, rfl, ?_⟩
            rw [HM2.out]
            first | exact ⟨HR6.out.q⟩ | exact ⟨HR6.out.drew.q⟩ | exact ⟨(HR6.out.drewN _).q⟩
          case measure => simp [intOf]; omega
        · go_upto_region 16 with fail
          go_region_with (first
            | (go_at_call 17; refine (HSm.out _ (by first | exact HR6.out | exact HR6.out.drew | exact HR6.out.drewN _)).mono ?_; rintro e7 w7 ⟨rfl, hb⟩; have n0_ : QR w g hq CS _ M2 M2 w7 := (by first | exact HR6.out.below hb | exact HR6.out.drew.below hb | exact (HR6.out.drewN _).below hb); clear HR6 hb k1 d2; have HR6 := Aside0.mk n0_; clear n0_; have k1 := HTx.out _ HR6.out; have d2 : w7.cell? ⟨g, 2, none⟩ = some (.bool true) := HR6.out.c 2 _ C2.out)
            | (go_at_call 13; refine (HRf.out _).mono ?_; rintro e7 w7 ⟨rfl, hb⟩; have n0_ : QR w g hq CS _ M2 M2 w7 := (by first | exact HR6.out.below hb | exact HR6.out.drew.below hb | exact (HR6.out.drewN _).below hb); clear HR6 hb k1 d2; have HR6 := Aside0.mk n0_; clear n0_; have k1 := HTx.out _ HR6.out; have d2 : w7.cell? ⟨g, 2, none⟩ = some (.bool true) := HR6.out.c 2 _ C2.out)
            | (go_at_call 18; refine (HLn.out _ (by first | exact HR6.out | exact HR6.out.drew | exact HR6.out.drewN _)).mono ?_; rintro e7 w7 ⟨rfl, rfl⟩))
          all_goals
            go_wp2
            go_roundw
            case rel =>
              refine ⟨k + 1, hq, by omega, by go_num, rfl, ?_⟩
              rw [HM2.out]
              first | exact ⟨HR6.out.q⟩ | exact ⟨HR6.out.drew.q⟩ | exact ⟨(HR6.out.drewN _).q⟩
            case measure => simp [intOf]; omega
    · obtain rfl : k = l.length := by omega
      have hmb := msgOf_take l l.length
      obtain ⟨M2, hM2⟩ : ∃ M2, msgOf (l.take l.length) = M2 := ⟨_, rfl⟩
      rw [hM2] at HQ hmb ⊢
      have Hmb := Aside0.mk (show M2.length ≤ 1048576 by have := HS.out; omega)
      clear hM2 hmb
      obtain ⟨X, hX⟩ : ∃ X : ByteArray, (⟨M2.toArray⟩ : ByteArray) = X := ⟨_, rfl⟩
      obtain ⟨Y, hY⟩ : ∃ Y : ByteArray, (⟨(sumV M2).toArray⟩ : ByteArray) = Y := ⟨_, rfl⟩
      have HTx := Aside0.mk (fun wx (H : QP w h (.slice ad0 M2.length cp0) M2 M2 wx) => H.text)
      rw [hX] at HTx
      have HSm := Aside0.mk (fun wx (H : QP w h (.slice ad0 M2.length cp0) M2 M2 wx) => sum_any h M2 wx H.hx (by have := Hmb.out; omega))
      rw [hY] at HSm
      have HRf := Aside0.mk (fun wx => ref_sum_any X wx (by rw [← hX]; show M2.toArray.size ≤ _; rw [List.size_toArray]; have := Hmb.out; omega))
      rw [show (⟨(sumV X.data.toList).toArray⟩ : ByteArray) = Y by rw [← hX, ← hY]] at HRf
      have HMc := Aside0.mk (fun wx => mac_sum_any X wx (by rw [← hX]; show M2.toArray.size ≤ _; rw [List.size_toArray]; have := Hmb.out; omega))
      rw [show (⟨(sumV X.data.toList).toArray⟩ : ByteArray) = Y by rw [← hX, ← hY]] at HMc
      have HLn := Aside0.mk (fun wx (H : QP w h (.slice ad0 M2.length cp0) M2 M2 wx) => by
        obtain ⟨S, R, n, HB, _⟩ := H.hx
        exact len_any h S R n _ wx HB)
      have k1 := HTx.out _ HQ.out.drew
      clear hX hY
      go_upto_region 19 with fail
      go_region_with (first
        | (go_at_call 17; refine (HSm.out _ (by first | exact HQ.out | exact HQ.out.drew | exact HQ.out.drewN _)).mono ?_; rintro e7 w7 ⟨rfl, hb⟩; have n0_ : QP w h _ M2 M2 w7 := (by first | exact HQ.out.below hb | exact HQ.out.drew.below hb | exact (HQ.out.drewN _).below hb); clear HQ hb k1; have HQ := Aside0.mk n0_; clear n0_; have k1 := HTx.out _ HQ.out)
        | (go_at_call 13; refine (HRf.out _).mono ?_; rintro e7 w7 ⟨rfl, hb⟩; have n0_ : QP w h _ M2 M2 w7 := (by first | exact HQ.out.below hb | exact HQ.out.drew.below hb | exact (HQ.out.drewN _).below hb); clear HQ hb k1; have HQ := Aside0.mk n0_; clear n0_; have k1 := HTx.out _ HQ.out)
        | (go_at_call 12; refine (HMc.out _).mono ?_; rintro e7 w7 ⟨rfl, hb⟩; have n0_ : QP w h _ M2 M2 w7 := (by first | exact HQ.out.below hb | exact HQ.out.drew.below hb | exact (HQ.out.drewN _).below hb); clear HQ hb k1; have HQ := Aside0.mk n0_; clear n0_; have k1 := HTx.out _ HQ.out)
        | (go_at_call 18; refine (HLn.out _ (by first | exact HQ.out | exact HQ.out.drew | exact HQ.out.drewN _)).mono ?_; rintro e7 w7 ⟨rfl, rfl⟩))
      all_goals
        go_wp2
        go_ret
        exact ⟨rfl, by first | exact HQ.out.be | exact HQ.out.drew.be | exact (HQ.out.drewN _).be⟩
theorem pieces_walk (A : Option Addr) (c : Nat) (l : List S30) (W : World) (hC : Kd.C k30 W A l.length l) (_hL : l.length ≤ c) (_ho : l.length * 24 ≤ 140737488351232 ∧ ∀ x ∈ l, x.f0.size ≤ 140737488351232 ∧ True ∧ True)
    (hb : Opn.lwt (fun x : S30 => ((x.f0.size + 1) + (1 + 1)) + 1) l + 1 ≤ 1048576) :
    Calls Try.prog 4 #[.slice A l.length c] W fun e w' => e = .returned (.bool true) ∧ Below W.heap.size W w' :=
  pieces_any A c l W hC (by have := msgOf_le l; omega)
end Go.Proofs.Ytililaifppblhaa.Sha
