/- The argument '[]Op' of a law, opened to a list of plain records. (open_slice_fields: after the kit's paper on structs.) -/
import Derived.Test.YtjlohahknngmmaaPEx0
import Derived.Deep.Slices
import Derived.Deep.Fields
import Derived.ChangeSame
import Derived.ChangeArms
import Derived.KernelRfl
import Derived.Deep.Strs
import Derived.SizedLaws
import Derived.Lib.SmallJoins
import Derived.Test.YtjlohahknngmmaaPuF
import Derived.Test.YtjlohahknngmmaaCdV
import Derived.Test.YtjlohahknngmmaaPFx
namespace Go.Proofs.Ytjlohahknngmmaa
open Go Go.ChangeShapes Go.WideShapes Go.Deep Go.RowKit Go.Proofs.YtjlohahknngmmaaW.PrintWords Go.Proofs.Ytjlohahknngmmaa.PE
set_option linter.unusedVariables false

theorem list_of {α : Type} {P : Nat → α → Prop} : ∀ n : Nat, (∀ i, i < n → ∃ x, P i x) → ∃ l : List α, l.length = n ∧ ∀ i x, l[i]? = some x → P i x
  | 0, _ => ⟨[], rfl, fun i x h => by simp at h⟩
  | n + 1, h => by
    obtain ⟨l, hl, hp⟩ := list_of n (fun i hi => h i (by omega))
    obtain ⟨x, hx⟩ := h n (by omega)
    refine ⟨l ++ [x], by simp [hl], fun i y hy => ?_⟩
    rcases Nat.lt_trichotomy i n with hi | rfl | hi
    · rw [List.getElem?_append_left (by omega)] at hy
      exact hp i y hy
    · rw [List.getElem?_append_right (by omega), hl, Nat.sub_self] at hy
      simp at hy
      rw [← hy]; exact hx
    · rw [List.getElem?_eq_none (by simp; omega)] at hy
      cases hy

section
variable {H : Type} {enc : TypeId × Value → H}
/-- A step's datum. -/
def opD (o : S41) : DataW H := .agg [.lit (.int .i64 o.f0), .lit (.int .u64 o.f1), .lit (.string o.f2.data.toList)]

theorem open_ops {W : World} {base : Nat} {spare : Nat → Bool} {held : Bool} {fuel : Nat} {cs : List Value} {x : DataW H × List MemPlace} (h : DataW.trod enc Try.prog W base spare held fuel 36 cs = some x) :
    ∃ (A : Option Addr) (c : Nat) (ops : List S41), cs = [.slice A ops.length c] ∧ ops.length ≤ c ∧ Kd.C k41 W A ops.length ops ∧ (∀ o ∈ ops, (Lit.int .i64 o.f0).wf = true ∧ (Lit.int .u64 o.f1).wf = true) ∧
      ((x.1 = .nil ∧ ops = []) ∨ ∃ sp, x.1 = .slice (ops.map opD) sp) := by
  rcases open_slice Try.underlying36 h with ⟨rfl, rfl⟩ | ⟨a, len, cap, m, n, D, Pl, hcs, hb, hl, hm, hmm, hx, hi⟩
  · exact ⟨none, 0, [], rfl, Nat.le_refl _, Kd.C_nil _ _, (fun o ho => by cases ho), .inl ⟨rfl, rfl⟩⟩
  · have hlm : len ≤ m := by rw [hmm]; split <;> omega
    have hel : ∀ i, i < len → ∃ o : S41, D i = opD o ∧ (Lit.int .i64 o.f0).wf = true ∧ (Lit.int .u64 o.f1).wf = true ∧ ∀ j u, [Value.int .i64 o.f0, .int .u64 o.f1, .string o.f2][j]? = some u → W.cell? (a.add (i * 3 + j)) = some u := by
      intro i hil
      obtain ⟨cs', hc, ht'⟩ := hi i (by omega)
      have hC : Try.prog.cellsOf 41 = 3 := by kernel_rfl
      have k0 : Try.prog.cellsOf 3 = 1 := by kernel_rfl
      have k1 : Try.prog.cellsOf 22 = 1 := by kernel_rfl
      have k2 : Try.prog.cellsOf 9 = 1 := by kernel_rfl
      rw [hC] at hc
      obtain ⟨y0, y1, y2, n', hy, hlen, f0, f1, f2⟩ := trod_struct3 Try.underlying41 ht'
      obtain ⟨_, hcl, hat⟩ := World.cells?_some hc
      rw [hC] at hlen
      match cs', hlen with
      | [c0, c1, c2], _ =>
        have f0 : DataW.trod enc Try.prog W base spare held n' 3 [c0] = some y0 := by simpa [k0] using f0
        have f1 : DataW.trod enc Try.prog W base spare held n' 22 [c1] = some y1 := by simpa [k1] using f1
        have f2 : DataW.trod enc Try.prog W base spare held n' 9 [c2] = some y2 := by simpa [k2] using f2
        obtain ⟨p0, e0, r0, w0⟩ := DataW.trod_int Try.underlying3 f0
        obtain ⟨p1, e1, r1, w1⟩ := DataW.trod_int Try.underlying22 f1
        obtain ⟨p2, e2, r2, w2⟩ := DataW.trod_string Try.underlying9 f2
        simp at e0 e1 e2
        subst e0 e1 e2 r0 r1 r2
        simp only [Prod.mk.injEq] at hy
        refine ⟨⟨p0, p1, p2⟩, hy.1, w0, w1, fun j u hu => ?_⟩
        have hj : j < 3 := (List.getElem?_eq_some_iff.1 hu).1
        have := hat j hj
        rw [← Go.Deep.add_add, this]
        exact hu
    obtain ⟨ops, hops, hP⟩ := list_of len hel
    refine ⟨some a, cap, ops, by rw [hops]; exact hcs, by omega, ?_, ?_, .inr ⟨(List.range (m - len)).map fun j => D (len + j), ?_⟩⟩
    · refine ⟨rfl, by rw [hops]; unfold maxLen at hm; omega, fun _ => ⟨a, rfl, fun j o hj => ⟨_, rfl, k41_mk W o, fun i u hu => ?_⟩⟩⟩
      exact (hP j o hj).2.2.2 i u hu
    · intro o ho
      obtain ⟨i, hi', he⟩ := List.getElem_of_mem ho
      have := hP i o (by rw [List.getElem?_eq_getElem hi', he])
      exact ⟨this.2.1, this.2.2.1⟩
    · rw [hx]
      simp only
      congr 1
      apply List.ext_getElem
      · simp [hops]
      · intro i h1 h2
        have h3 : i < ops.length := by simpa using h2
        have := hP i ops[i] (List.getElem?_eq_getElem h3)
        simp [this.1]
end
theorem rd_mem (ops : List S41) (k : Nat) (h : k < ops.length) : rd_T41 ops (k : Int) ∈ ops := by
  unfold rd_T41
  rw [Int.toNat_natCast, List.getD_eq_getElem?_getD, List.getElem?_eq_getElem h]
  exact List.getElem_mem h

end Go.Proofs.Ytjlohahknngmmaa
/- Walks: the reference's Number, Varint, Text, and what a step puts (bytes). -/
namespace Go.Proofs.Ytjlohahknngmmaa
open Go Go.RowKit Go.Proofs.YtjlohahknngmmaaW.PrintWords Go.Proofs.YtjlohahknngmmaaW.PrintMore Go.Proofs.YtjlohahknngmmaaW.PrintLast Go.Proofs.Ytjlohahknngmmaa.PureC Go.Proofs.Ytjlohahknngmmaa.PureD
set_option linter.unusedVariables false
set_option linter.unusedSimpArgs false

theorem rvarint_rounds (f : Nat) : ∀ (n : Int) (acc : List Int), 0 ≤ n → n < 18446744073709551616 → n < 128 ^ (f + 1) → acc.length + f < 140737488355328 → PF.atriumref02_Varint.l0 (f + 1) n acc = some (strOfNums (acc ++ vb f n)) := by
  induction f with
  | zero =>
    intro n acc h0 hn h1 h2
    rw [show (128 : Int) ^ (0 + 1) = 128 from rfl] at h1
    simp only [PF.atriumref02_Varint.l0]
    rw [if_neg (by omega), if_pos (by omega)]
    rfl
  | succ f ih =>
    intro n acc h0 hn h1 h2
    rw [Int.pow_succ] at h1
    rw [PF.atriumref02_Varint.l0, vb]
    by_cases hg : n ≥ 128
    · have e1 : Int.tmod n 128 = n % 128 := Int.tmod_eq_emod_of_nonneg h0
      have e2 : Int.tdiv n 128 = n / 128 := Int.tdiv_eq_ediv_of_nonneg h0
      rw [if_pos hg, if_pos (by omega), if_pos hg, e1, e2, u64w (by omega) (by omega), ih (n / 128) _ (by omega) (by omega) (by omega) (by rw [List.length_append, List.length_singleton]; omega), show (n % 128 + 128) % 256 = n % 128 + 128 by omega]
      simp
    · rw [if_neg hg, if_pos (by omega), if_neg hg]
theorem ref_varint (n : Int) (h0 : 0 ≤ n) (h1 : n < 18446744073709551616) (w : World) :
    Calls Try.prog 51 #[.int .u64 n] w fun e w' => e = .returned (.string (strOfNums (vb 9 n))) ∧ Below w.heap.size w w' := by
  have h := rvarint_rounds 9 n [] h0 h1 (by rw [show (128 : Int) ^ (9 + 1) = 1180591620717411303424 from rfl]; omega) (by decide)
  exact PF.atriumref02_Varint.calls 10 n _ w h
theorem ref_number (n : Int) (z : Nat) (h0 : 0 ≤ n) (hz : z ≤ 8) (w : World) :
    Calls Try.prog 50 #[.int .u64 n, .int .i64 (z : Int)] w fun e w' => e = .returned (.string (strOfNums (nb n z))) ∧ Below w.heap.size w w' := by
  obtain ⟨k, hk⟩ := (number_ev n h0 z hz).rounds
  exact PD.atriumref02_Number.calls k n z _ w hk
set_option maxHeartbeats 1000000 in
theorem ref_text (s : ByteArray) (hs : s.size ≤ 140737488351232) (w : World) :
    Calls Try.prog 52 #[.string s] w fun e w' => e = .returned (.string (strOfNums (vb 9 (s.size : Int)) ++ s)) ∧ Below w.heap.size w w' := by
  have hvl := vb_len 9 (s.size : Int)
  have hvs : (strOfNums (vb 9 (s.size : Int))).size ≤ 10 := by rw [strOfNums_size]; exact hvl
  clear hvl
  have hw : IntKind.u64.wrap (s.size : Int) = (s.size : Int) := by
    show (s.size : Int) % 18446744073709551616 = _
    omega
  go_enter Try.func52, Try.ntmps52
  go_wp2_with (go_at_call 51; refine (ref_varint (s.size : Int) (by omega) (by omega) _).mono ?_)
  rintro e w1 ⟨rfl, hb⟩
  have HB := Aside0.mk hb
  clear hb
  generalize hv : strOfNums (vb 9 (s.size : Int)) = v at *
  have HV := Aside0.mk hv
  clear hv
  have hlim : v.size + s.size ≤ 9223372036854775807 := by omega
  go_wp2
  go_ret
  exact ⟨by rw [HV.out]; rfl, HB.out⟩
theorem strOfNums_bytesOf (s : ByteArray) : strOfNums (bytesOf s) = s := str_back s
theorem mod_split (n m : Int) (hm : 0 < m) : n % (m * 256) = 256 * (n / 256 % m) + n % 256 := by
  have h1 : n = (256 * (n / 256 % m) + n % 256) + (m * 256) * (n / 256 / m) := by
    have a := Int.mul_ediv_add_emod (n / 256) m
    have b : n = 256 * (n / 256) + n % 256 := by omega
    have c : (m * 256) * (n / 256 / m) = 256 * (m * (n / 256 / m)) := by rw [Int.mul_comm m 256, Int.mul_assoc]
    rw [c]
    generalize m * (n / 256 / m) = u at *
    omega
  have h2 := Int.emod_nonneg (n / 256) (show m ≠ 0 by omega)
  have h3 := Int.emod_lt_of_pos (n / 256) hm
  have h4 : (256 * (n / 256 % m) + n % 256) % (m * 256) = 256 * (n / 256 % m) + n % 256 := by
    apply Int.emod_eq_of_lt
    · omega
    · have : 256 * (n / 256 % m) + n % 256 < 256 * m := by omega
      rw [Int.mul_comm m 256]; exact this
  rw [← h4]
  conv => lhs; rw [h1]
  rw [Int.add_mul_emod_self_left]
theorem nb_mod (k : Nat) : ∀ n : Int, nb (n % 256 ^ k) k = nb n k := by
  induction k with
  | zero => intro n; rfl
  | succ k ih =>
    intro n
    have hp : (0 : Int) < 256 ^ k := Int.pow_pos (by decide)
    rw [nb, nb, Int.pow_succ, mod_split n _ hp]
    have h2 := Int.emod_nonneg (n / 256) (show (256 : Int) ^ k ≠ 0 by omega)
    rw [show (256 * (n / 256 % 256 ^ k) + n % 256) / 256 = n / 256 % 256 ^ k by omega, show (256 * (n / 256 % 256 ^ k) + n % 256) % 256 = n % 256 by omega, ih]

/-- What a step puts, as the law has it. -/
def opText (kind n : Int) (s : ByteArray) : ByteArray := strOfNums (opBytes kind n s)
theorem opText_size (kind n : Int) (s : ByteArray) : (opText kind n s).size = (opBytes kind n s).length := strOfNums_size _
set_option maxHeartbeats 2000000 in
theorem bytes_any (kind n : Int) (s : ByteArray) (w : World) (h0 : 0 ≤ n) (h1 : n < 18446744073709551616) (hs : s.size ≤ 140737488351232) :
    Calls Try.prog 21 #[.agg #[.int .i64 kind, .int .u64 n, .string s]] w fun e w' => e = .returned (.string (opText kind n s)) ∧ Below w.heap.size w w' := by
  have hu := Try.underlying41
  have HB := Aside0.mk (below_alloc (Below.refl w.heap.size w) (.cells #[.int .i64 kind, .int .u64 n, .string s] 41))
  by_cases hk : kind < 0 ∨ 6 < kind
  · have k0 : (kind == 0) = false := beq_eq_false_iff_ne.mpr (by omega)
    have k1 : (kind == 1) = false := beq_eq_false_iff_ne.mpr (by omega)
    have k2 : (kind == 2) = false := beq_eq_false_iff_ne.mpr (by omega)
    have k3 : (kind == 3) = false := beq_eq_false_iff_ne.mpr (by omega)
    have k4 : (kind == 4) = false := beq_eq_false_iff_ne.mpr (by omega)
    have k5 : (kind == 5) = false := beq_eq_false_iff_ne.mpr (by omega)
    have k6 : (kind == 6) = false := beq_eq_false_iff_ne.mpr (by omega)
    have HE : Aside0 (opText kind n s = ⟨#[]⟩) := ⟨by unfold opText opBytes; rw [if_neg (by omega), if_neg (by omega), if_neg (by omega), if_neg (by omega), if_neg (by omega), if_neg (by omega), if_neg (by omega)]; rfl⟩
    clear hk
    go_enter Try.func21, Try.ntmps21
    go_wp2
    go_ret
    exact ⟨by rw [HE.out]; rfl, HB.out⟩
  · have hc : kind = 0 ∨ kind = 1 ∨ kind = 2 ∨ kind = 3 ∨ kind = 4 ∨ kind = 5 ∨ kind = 6 := by omega
    clear hk
    rcases hc with rfl | rfl | rfl | rfl | rfl | rfl | rfl
    · have HE : Aside0 (strOfNums (nb n 1) = opText 0 n s) := ⟨by have h := nb_mod 1 n; rw [show (256 : Int) ^ 1 = 256 from rfl] at h; show _ = strOfNums (nb (n % 256) 1); rw [h]⟩
      go_enter Try.func21, Try.ntmps21
      go_wp2_with (go_at_call 50; refine (ref_number n 1 h0 (by decide) _).mono ?_)
      rintro e w2 ⟨rfl, hb⟩
      rw [HE.out]
      have HB2 := Aside0.mk (HB.out.trans (hb.mono HB.out.size))
      clear hb
      go_wp2
      go_ret
      exact ⟨rfl, HB2.out⟩
    · have HE : Aside0 (strOfNums (nb n 2) = opText 1 n s) := ⟨by have h := nb_mod 2 n; rw [show (256 : Int) ^ 2 = 65536 from rfl] at h; show _ = strOfNums (nb (n % 65536) 2); rw [h]⟩
      go_enter Try.func21, Try.ntmps21
      go_wp2_with (go_at_call 50; refine (ref_number n 2 h0 (by decide) _).mono ?_)
      rintro e w2 ⟨rfl, hb⟩
      rw [HE.out]
      have HB2 := Aside0.mk (HB.out.trans (hb.mono HB.out.size))
      clear hb
      go_wp2
      go_ret
      exact ⟨rfl, HB2.out⟩
    · have HE : Aside0 (strOfNums (nb n 4) = opText 2 n s) := ⟨by have h := nb_mod 4 n; rw [show (256 : Int) ^ 4 = 4294967296 from rfl] at h; show _ = strOfNums (nb (n % 4294967296) 4); rw [h]⟩
      go_enter Try.func21, Try.ntmps21
      go_wp2_with (go_at_call 50; refine (ref_number n 4 h0 (by decide) _).mono ?_)
      rintro e w2 ⟨rfl, hb⟩
      rw [HE.out]
      have HB2 := Aside0.mk (HB.out.trans (hb.mono HB.out.size))
      clear hb
      go_wp2
      go_ret
      exact ⟨rfl, HB2.out⟩
    · have HE : Aside0 (strOfNums (nb n 8) = opText 3 n s) := ⟨by rfl⟩
      go_enter Try.func21, Try.ntmps21
      go_wp2_with (go_at_call 50; refine (ref_number n 8 h0 (by decide) _).mono ?_)
      rintro e w2 ⟨rfl, hb⟩
      rw [HE.out]
      have HB2 := Aside0.mk (HB.out.trans (hb.mono HB.out.size))
      clear hb
      go_wp2
      go_ret
      exact ⟨rfl, HB2.out⟩
    · go_enter Try.func21, Try.ntmps21
      go_wp2_with (go_at_call 51; refine (ref_varint n h0 h1 _).mono ?_)
      rintro e w2 ⟨rfl, hb⟩
      have HB2 := Aside0.mk (HB.out.trans (hb.mono HB.out.size))
      clear hb
      go_wp2
      go_ret
      exact ⟨rfl, HB2.out⟩
    · have HE : Aside0 (strOfNums (vb 9 (s.size : Int)) ++ s = opText 5 n s) := ⟨by show _ = strOfNums (vb 9 (s.size : Int) ++ bytesOf s); rw [str_append, str_back]⟩
      go_enter Try.func21, Try.ntmps21
      go_wp2_with (go_at_call 52; refine (ref_text s hs _).mono ?_)
      rintro e w2 ⟨rfl, hb⟩
      rw [HE.out]
      have HB2 := Aside0.mk (HB.out.trans (hb.mono HB.out.size))
      clear hb
      go_wp2
      go_ret
      exact ⟨rfl, HB2.out⟩
    · have HE : Aside0 (s = opText 6 n s) := ⟨(str_back s).symm⟩
      go_enter Try.func21, Try.ntmps21
      go_wp2
      go_ret
      exact ⟨by rw [← HE.out]; rfl, HB.out⟩
end Go.Proofs.Ytjlohahknngmmaa
/- A Writer's state as the laws see it (over, what is written), beside a block that stays; a step's write on it. -/
namespace Go.Proofs.Ytjlohahknngmmaa
open Go Go.RowKit Go.Proofs.YtjlohahknngmmaaW.PrintWords Go.Proofs.YtjlohahknngmmaaW.PrintMore Go.Proofs.YtjlohahknngmmaaW.PrintLast Go.Proofs.Ytjlohahknngmmaa.PureC Go.Proofs.Ytjlohahknngmmaa.PureD
set_option linter.unusedVariables false
set_option linter.unusedSimpArgs false

def alOf (over : Bool) (l : List Int) : ByteArray := if over = true then ⟨#[]⟩ else strOfNums l
def nx (M : Int) (over : Bool) (al tb : ByteArray) : Bool × ByteArray :=
  if over = true then (true, ⟨#[]⟩) else if M - (al.size : Int) < (tb.size : Int) then (true, ⟨#[]⟩) else (false, al ++ tb)

/-- A Writer in block b (bound M), over or with al written, beside block h. -/
def WSH (w0 : World) (b : Nat) (M : Int) (over : Bool) (al : ByteArray) (N h : Nat) (cs : Array Value) (w : World) : Prop :=
  ∃ v l, Wr w0.heap.size b M over v l w ∧ Below w0.heap.size w0 w ∧ al = alOf over l ∧ (over = false → (l.length : Int) ≤ M) ∧ l.length ≤ N ∧ w.heap[h]? = some (.cells cs 41 (0, 0)) ∧ some h ≠ v.ownBlock
/-- The same without the block. -/
def WS (w0 : World) (b : Nat) (M : Int) (over : Bool) (al : ByteArray) (N : Nat) (w : World) : Prop :=
  ∃ v l, Wr w0.heap.size b M over v l w ∧ Below w0.heap.size w0 w ∧ al = alOf over l ∧ (over = false → (l.length : Int) ≤ M) ∧ l.length ≤ N

theorem own_lt_of {B b : Nat} {most : Int} {over : Bool} {v : Value} {l : List Int} {w : World} (h : Wr B b most over v l w) (k : Nat) (hk : v.ownBlock = some k) : k < w.heap.size := own_lt h.2.1 k hk
theorem WS.with {w0 : World} {b : Nat} {M : Int} {over : Bool} {al : ByteArray} {N : Nat} {w : World} (h : WS w0 b M over al N w) (cs : Array Value) : WSH w0 b M over al N w.heap.size cs (w.alloc (.cells cs 41)) := by
  obtain ⟨v, l, h1, h2, h3, h4, h5⟩ := h
  refine ⟨v, l, h1.below (below_alloc (Below.refl _ _) _), below_alloc h2 _, h3, h4, h5, blk_new w _, fun he => ?_⟩
  exact Nat.lt_irrefl _ (own_lt_of h1 _ he.symm)
theorem WSH.ws {w0 : World} {b : Nat} {M : Int} {over : Bool} {al : ByteArray} {N h : Nat} {cs : Array Value} {w : World} (hw : WSH w0 b M over al N h cs w) : WS w0 b M over al N w := by
  obtain ⟨v, l, h1, h2, h3, h4, h5, _⟩ := hw
  exact ⟨v, l, h1, h2, h3, h4, h5⟩
theorem WS.below {w0 : World} {b : Nat} {M : Int} {over : Bool} {al : ByteArray} {N : Nat} {w w1 : World} (h : WS w0 b M over al N w) (hb : Below w.heap.size w w1) : WS w0 b M over al N w1 := by
  obtain ⟨v, l, h1, h2, h3, h4, h5⟩ := h
  exact ⟨v, l, h1.below hb, h2.trans (hb.mono h2.size), h3, h4, h5⟩
theorem WSH.below {w0 : World} {b : Nat} {M : Int} {over : Bool} {al : ByteArray} {N h : Nat} {cs : Array Value} {w w1 : World} (hw : WSH w0 b M over al N h cs w) (hb : Below w.heap.size w w1) : WSH w0 b M over al N h cs w1 := by
  obtain ⟨v, l, h1, h2, h3, h4, h5, h6, h7⟩ := hw
  exact ⟨v, l, h1.below hb, h2.trans (hb.mono h2.size), h3, h4, h5, (hb.block h (blk_lt h6)).trans h6, h7⟩
theorem WSH.cell {w0 : World} {b : Nat} {M : Int} {over : Bool} {al : ByteArray} {N h : Nat} {cs : Array Value} {w : World} (hw : WSH w0 b M over al N h cs w) (i : Nat) {v : Value} (hv : cs[i]? = some v) : w.cell? ⟨h, i, none⟩ = some v := by
  obtain ⟨_, _, _, _, _, _, _, h6, _⟩ := hw
  exact (blk_cell h6 i).trans hv
theorem WS.bel {w0 : World} {b : Nat} {M : Int} {over : Bool} {al : ByteArray} {N : Nat} {w : World} (h : WS w0 b M over al N w) : Below w0.heap.size w0 w := by
  obtain ⟨v, l, h1, h2, _⟩ := h
  exact h2
theorem WS.facts {w0 : World} {b : Nat} {M : Int} {over : Bool} {al : ByteArray} {N : Nat} {w : World} (h : WS w0 b M over al N w) : al.size ≤ N ∧ (over = false → (al.size : Int) ≤ M) ∧ (over = true → al = ⟨#[]⟩) := by
  obtain ⟨v, l, h1, h2, h3, h4, h5⟩ := h
  subst h3
  cases over with
  | true => exact ⟨Nat.zero_le _, (fun h => by cases h), fun _ => rfl⟩
  | false =>
    have : (alOf false l).size = l.length := strOfNums_size l
    exact ⟨by omega, (fun _ => by rw [this]; exact h4 rfl), (fun h => by cases h)⟩

theorem nx_putP (M : Int) (over : Bool) (l xs : List Int) : nx M over (alOf over l) (strOfNums xs) = ((putP M over l xs).1, alOf (putP M over l xs).1 (putP M over l xs).2) := by
  unfold nx putP
  cases over with
  | true => rfl
  | false =>
    have e1 : (alOf false l).size = l.length := strOfNums_size l
    rw [e1, strOfNums_size]
    simp only [Bool.false_eq_true, if_false]
    split
    · rfl
    · show (false, alOf false l ++ strOfNums xs) = (false, strOfNums (l ++ xs))
      rw [str_append]; rfl
theorem blk_ne {w : World} {a b : Nat} {cs cs' : Array Value} {t t' : TypeId} {f f' : Nat × Nat} (h : w.heap[a]? = some (.cells cs t f)) (h' : w.heap[b]? = some (.cells cs' t' f')) (ht : t ≠ t') : a ≠ b := by
  rintro rfl
  rw [h] at h'
  injection h' with h'
  injection h' with _ h2
  exact ht h2
theorem write_ws (w0 : World) (b : Nat) (M : Int) (over : Bool) (al : ByteArray) (N h : Nat) (cs : Array Value) (w : World) (kind n : Int) (t : ByteArray) (h0 : 0 ≤ n) (h1 : n < 18446744073709551616) (ht : t.size ≤ 140737488351232) (hM : 0 ≤ M) (hM2 : M ≤ 9223372036854775807)
    (hN : N + (opText kind n t).size ≤ 140737488355328) (hw : WSH w0 b M over al N h cs w) :
    Calls Try.prog 20 #[.pointer (some ⟨b, 0, none⟩), .agg #[.int .i64 kind, .int .u64 n, .string t]] w fun e w' => e = .returned (.tuple #[]) ∧ WSH w0 b M (nx M over al (opText kind n t)).1 (nx M over al (opText kind n t)).2 (N + (opText kind n t).size) h cs w' := by
  have hsz := opText_size kind n t
  have hsz := opText_size kind n t
  refine write_any _ kind n t w h0 h1 ht _ ?_ ?_
  · obtain ⟨v, l, hW, hB, ha, hl, hlN, hh, ho⟩ := hw
    have hp := puts_some hW (opBytes kind n t) hM hM2 (by omega) hB.size
    subst ha
    rw [show nx M over (alOf over l) (opText kind n t) = _ from nx_putP M over l (opBytes kind n t)]
    intro A m c w1 hr hb1
    refine (hp A m c w1 hr hb1).mono ?_
    rintro e w2 ⟨rfl, v', hW', hB', hK, hv'⟩
    refine ⟨rfl, v', (putP M over l (opBytes kind n t)).2, hW', hB.trans hB', rfl, ?_, ?_, ?_, ?_⟩
    · unfold putP
      cases over with
      | true => intro h; cases h
      | false =>
        simp only [Bool.false_eq_true, if_false]
        split
        · intro h; cases h
        · intro _
          simp only [List.length_append]
          omega
    · unfold putP
      split
      · show l.length ≤ _; omega
      · split
        · show l.length ≤ _; omega
        · simp only [List.length_append]; omega
    · exact hK.blk hh (fun e => blk_ne hW.1 hh (by decide) e.symm) ho
    · rcases hv' with e | ⟨q, e, hq⟩
      · rw [e]; exact ho
      · rw [e]
        intro e2
        injection e2 with e2
        subst e2
        exact absurd (blk_lt hh) (Nat.not_lt_of_le hq)
  · intro hk w1 hb1
    have he : opBytes kind n t = [] := by unfold opBytes; rw [if_neg (by omega), if_neg (by omega), if_neg (by omega), if_neg (by omega), if_neg (by omega), if_neg (by omega), if_neg (by omega)]
    have he2 : opText kind n t = ⟨#[]⟩ := by unfold opText; rw [he]; rfl
    obtain ⟨v, l, hW, hB, ha, hl, hlN, hh, ho⟩ := hw.below hb1
    rw [he2]
    have hz : (⟨#[]⟩ : ByteArray).size = 0 := rfl
    subst ha
    unfold nx
    cases over with
    | true => exact ⟨v, l, hW, hB, rfl, hl, hlN, hh, ho⟩
    | false =>
      have e1 : (alOf false l).size = l.length := strOfNums_size l
      have h4 := hl rfl
      simp only [Bool.false_eq_true, if_false]
      rw [e1, hz, if_neg (by omega)]
      refine ⟨v, l, hW, hB, ?_, hl, hlN, hh, ho⟩
      show alOf false l ++ ByteArray.empty = alOf false l
      simp

theorem len_ws (w0 : World) (b : Nat) (M : Int) (over : Bool) (al : ByteArray) (N h : Nat) (cs : Array Value) (w : World) (hw : WSH w0 b M over al N h cs w) :
    Calls Try.prog 22 #[.pointer (some ⟨b, 0, none⟩)] w fun e w' => e = .returned (.int .i64 (al.size : Int)) ∧ WSH w0 b M over al N h cs w' := by
  obtain ⟨v, l, hW, hB, ha, hl, hlN, hh, ho⟩ := hw
  refine (len_some _ _ _ _ _ _ _ hW).mono ?_
  rintro e w1 ⟨rfl, ⟨n1, rfl⟩⟩
  refine ⟨?_, v, l, hW.drewN n1, pw_below_drewN hB n1, ha, hl, hlN, hh, ho⟩
  subst ha
  cases over with
  | true => rfl
  | false =>
    have e1 : (alOf false l).size = l.length := strOfNums_size l
    rw [e1]; rfl
theorem done_ws (er : Int) (w0 : World) (b : Nat) (M : Int) (over : Bool) (al : ByteArray) (N h : Nat) (cs : Array Value) (w : World) (hw : WSH w0 b M over al N h cs w) (he : er = if over = true then 3 else 0) :
    Calls Try.prog 14 #[.pointer (some ⟨b, 0, none⟩)] w fun e w' => e = .returned (.tuple #[.string al, .int .i64 er]) ∧ WSH w0 b M over al N h cs w' := by
  obtain ⟨v, l, hW, hB, ha, hl, hlN, hh, ho⟩ := hw
  refine (done_some _ _ _ _ _ _ _ hW).mono ?_
  rintro e w1 ⟨rfl, ⟨n1, rfl⟩⟩
  refine ⟨?_, v, l, hW.drewN n1, pw_below_drewN hB n1, ha, hl, hlN, hh, ho⟩
  subst ha he
  cases over <;> rfl
theorem bytes_ws (w0 : World) (b : Nat) (M : Int) (over : Bool) (al : ByteArray) (N h : Nat) (cs : Array Value) (w : World) (kind n : Int) (t : ByteArray) (h0 : 0 ≤ n) (h1 : n < 18446744073709551616) (ht : t.size ≤ 140737488351232) (hw : WSH w0 b M over al N h cs w) :
    Calls Try.prog 21 #[.agg #[.int .i64 kind, .int .u64 n, .string t]] w fun e w' => e = .returned (.string (opText kind n t)) ∧ WSH w0 b M over al N h cs w' := by
  refine (bytes_any kind n t w h0 h1 ht).mono ?_
  rintro e w1 ⟨rfl, hb⟩
  exact ⟨rfl, hw.below hb⟩
theorem wlen_ws (w0 : World) (b : Nat) (M : Int) (over : Bool) (al : ByteArray) (N : Nat) (w : World) (hw : WS w0 b M over al N w) :
    Calls Try.prog 22 #[.pointer (some ⟨b, 0, none⟩)] w fun e w' => e = .returned (.int .i64 (al.size : Int)) ∧ WS w0 b M over al N w' := by
  obtain ⟨v, l, hW, hB, ha, hl, hlN⟩ := hw
  refine (len_some _ _ _ _ _ _ _ hW).mono ?_
  rintro e w1 ⟨rfl, ⟨n1, rfl⟩⟩
  refine ⟨?_, v, l, hW.drewN n1, pw_below_drewN hB n1, ha, hl, hlN⟩
  subst ha
  cases over with
  | true => rfl
  | false =>
    have e1 : (alOf false l).size = l.length := strOfNums_size l
    rw [e1]; rfl
theorem wdone_ws (er : Int) (w0 : World) (b : Nat) (M : Int) (over : Bool) (al : ByteArray) (N : Nat) (w : World) (hw : WS w0 b M over al N w) (he : er = if over = true then 3 else 0) :
    Calls Try.prog 14 #[.pointer (some ⟨b, 0, none⟩)] w fun e w' => e = .returned (.tuple #[.string al, .int .i64 er]) ∧ WS w0 b M over al N w' := by
  obtain ⟨v, l, hW, hB, ha, hl, hlN⟩ := hw
  refine (done_some _ _ _ _ _ _ _ hW).mono ?_
  rintro e w1 ⟨rfl, ⟨n1, rfl⟩⟩
  refine ⟨?_, v, l, hW.drewN n1, pw_below_drewN hB n1, ha, hl, hlN⟩
  subst ha he
  cases over <;> rfl

theorem opText_le (kind n : Int) (t : ByteArray) : (opText kind n t).size ≤ t.size + 10 := by
  rw [opText_size]
  unfold opBytes
  have := vb_len 9 n
  have := vb_len 9 (t.size : Int)
  repeat' split
  all_goals (try simp only [nb_length, List.length_append, bytesOf_length, List.length_nil])
  all_goals (try omega)
end Go.Proofs.Ytjlohahknngmmaa
