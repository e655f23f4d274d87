/- Varints as plain lists of bytes: what is written, and what a Reader finds. -/
import Derived.Test.YtjlohahknngmmaaPCx
import Derived.Test.YtjlohahknngmmaaCdM
namespace Go.Proofs.Ytjlohahknngmmaa.PureC
set_option linter.unusedVariables false
open Go Go.RowKit Go.Proofs.Ytjlohahknngmmaa Go.Proofs.Ytjlohahknngmmaa.PC Go.Proofs.YtjlohahknngmmaaW.PrintWords Go.Proofs.YtjlohahknngmmaaW.PrintLast

def vb : Nat → Int → List Int
  | 0, n => [n % 256]
  | f + 1, n => if n ≥ 128 then (n % 128 + 128) :: vb f (n / 128) else [n % 256]
theorem vb_pos (f : Nat) (n : Int) : 1 ≤ (vb f n).length := by
  cases f with
  | zero => simp [vb]
  | succ f => simp only [vb]; split <;> simp
theorem vb_len (f : Nat) : ∀ n : Int, (vb f n).length ≤ f + 1 := by
  induction f with
  | zero => intro n; simp [vb]
  | succ f ih =>
    intro n
    simp only [vb]
    split
    · have := ih (n / 128)
      simp only [List.length_cons]
      omega
    · simp
theorem vb_mono (f : Nat) : ∀ a b : Int, 0 ≤ a → a ≤ b → (vb f a).length ≤ (vb f b).length := by
  induction f with
  | zero => intro a b _ _; simp [vb]
  | succ f ih =>
    intro a b h0 h
    simp only [vb]
    by_cases ha : a ≥ 128
    · rw [if_pos ha, if_pos (by omega)]
      have := ih (a / 128) (b / 128) (by omega) (by omega)
      simp only [List.length_cons]
      omega
    · rw [if_neg ha]
      split
      · simp
      · simp
theorem vb_bytes (f : Nat) : ∀ n : Int, 0 ≤ n → ∀ c ∈ vb f n, 0 ≤ c ∧ c ≤ 255 := by
  induction f with
  | zero => intro n h c hc; simp [vb] at hc; omega
  | succ f ih =>
    intro n h c hc
    simp only [vb] at hc
    split at hc
    · rcases List.mem_cons.1 hc with rfl | hc
      · omega
      · exact ih _ (by omega) c hc
    · simp at hc; omega
theorem or128 (n : Int) (h : 0 ≤ n) : Go.bits .or .u8 (n % 256) 128 = n % 128 + 128 := by
  have h' : ((List.range 256).all fun b => decide (Go.bits .or .u8 ((b : Nat) : Int) 128 = ((b : Nat) : Int) % 128 + 128)) = true := by decide +kernel
  have h2 := of_decide_eq_true (List.all_eq_true.1 h' (n % 256).toNat (List.mem_range.2 (by omega)))
  rw [Int.toNat_of_nonneg (by omega)] at h2
  rw [h2]; omega
theorem varint_rounds (f : Nat) : ∀ (n : Int) (acc : List Int), 0 ≤ n → n < 128 ^ (f + 1) → acc.length + f < 140737488355328 → codec_varint.l0 (f + 1) n acc = some (acc ++ vb f n) := by
  induction f with
  | zero =>
    intro n acc h0 h1 h2
    rw [show (128 : Int) ^ (0 + 1) = 128 from rfl] at h1
    simp only [codec_varint.l0]
    rw [if_neg (by omega), if_pos (by omega)]
    rfl
  | succ f ih =>
    intro n acc h0 h1 h2
    rw [Int.pow_succ] at h1
    rw [codec_varint.l0, vb]
    by_cases hn : n ≥ 128
    · rw [if_pos hn, if_pos (by omega), if_pos hn, or128 n h0, ih (n / 128) _ (by omega) (by omega) (by rw [List.length_append, List.length_singleton]; omega)]
      simp
    · rw [if_neg hn, if_pos (by omega), if_neg hn]
theorem varint_eq (n : Int) (h0 : 0 ≤ n) (h1 : n < 18446744073709551616) : codec_varint.f 10 n = some (vb 9 n) := by
  have h := varint_rounds 9 n [] h0 (by rw [show (128 : Int) ^ (9 + 1) = 1180591620717411303424 from rfl]; omega) (by decide)
  exact h

/-! ### Reading -/
def lv : List Int → Int
  | [] => 0
  | c :: t => c % 128 + 128 * lv t
theorem lv_snoc (p : List Int) (c : Int) : lv (p ++ [c]) = lv p + 128 ^ p.length * (c % 128) := by
  induction p with
  | nil => simp [lv]
  | cons x p ih =>
    simp only [List.cons_append, lv, ih, List.length_cons, Int.pow_succ]
    rw [Int.mul_add, Int.add_assoc, ← Int.mul_assoc, Int.mul_comm 128 (128 ^ p.length)]
theorem lv_range (p : List Int) : 0 ≤ lv p ∧ lv p < 128 ^ p.length := by
  induction p with
  | nil => simp [lv]
  | cons x p ih =>
    simp only [lv, List.length_cons, Int.pow_succ]
    omega
def rv (p : List Int) : List Int → Int × Int × Int
  | [] => (0, 0, 20)
  | c :: t => if p.length = 9 ∧ c ≠ 1 then (0, 0, 21) else if c < 128 then (if c = 0 ∧ 0 < p.length then (0, 0, 21) else (lv (p ++ [c]), (p.length : Int) + 1, 0)) else rv (p ++ [c]) t

theorem rv_vb (f : Nat) : ∀ (n : Int) (p rest : List Int), p.length + f = 9 → 0 ≤ n → 128 ^ p.length * n < 18446744073709551616 → (0 < p.length → 1 ≤ n) →
    rv p (vb f n ++ rest) = (lv p + 128 ^ p.length * n, (p.length : Int) + (vb f n).length, 0) := by
  induction f with
  | zero =>
    intro n p rest hf h0 h1 h2
    have hp : p.length = 9 := by omega
    rw [hp, show (128 : Int) ^ 9 = 9223372036854775808 from rfl] at h1
    have h3 := h2 (by omega)
    obtain rfl : n = 1 := by omega
    simp only [vb, List.singleton_append, rv]
    rw [if_neg (by omega), if_pos (by decide), if_neg (fun h => absurd h.1 (by decide)), lv_snoc, hp]
    simp
  | succ f ih =>
    intro n p rest hf h0 h1 h2
    simp only [vb]
    by_cases hn : n ≥ 128
    · rw [if_pos hn, List.cons_append, rv, if_neg (by omega), if_neg (by omega)]
      have hd : 128 ^ p.length * n = 128 ^ p.length * (n % 128) + 128 ^ p.length * 128 * (n / 128) := by
        rw [Int.mul_assoc, ← Int.mul_add]
        congr 1
        omega
      have hpos : (0 : Int) ≤ 128 ^ p.length * (n % 128) := Int.mul_nonneg (Int.pow_nonneg (by decide)) (by omega)
      have h := ih (n / 128) (p ++ [n % 128 + 128]) rest (by rw [List.length_append, List.length_singleton]; omega) (by omega) (by rw [List.length_append, List.length_singleton, Int.pow_succ]; omega) (fun _ => by omega)
      rw [h, lv_snoc, List.length_append, List.length_singleton, Int.pow_succ, List.length_cons]
      simp only [Prod.mk.injEq, and_true]
      rw [show (n % 128 + 128) % 128 = n % 128 by omega]
      constructor
      · omega
      · omega
    · rw [if_neg hn, List.singleton_append, rv, if_neg (by omega), if_pos (by omega), if_neg (by intro h; have := h2 h.2; omega), lv_snoc]
      rw [show n % 256 % 128 = n by omega]
      rfl
theorem rv_cut (f : Nat) : ∀ (n : Int) (p : List Int), p.length + f = 9 → 0 ≤ n → rv p (vb f n).dropLast = (0, 0, 20) := by
  induction f with
  | zero => intro n p _ _; rfl
  | succ f ih =>
    intro n p hf h0
    simp only [vb]
    by_cases hn : n ≥ 128
    · have hne : vb f (n / 128) ≠ [] := by
        intro h; have := vb_pos f (n / 128); rw [h] at this; simp at this
      rw [if_pos hn, List.dropLast_cons_of_ne_nil hne, rv, if_neg (by omega), if_neg (by omega)]
      exact ih _ _ (by rw [List.length_append, List.length_singleton]; omega) (by omega)
    · rw [if_neg hn]; rfl

theorem and127 (c : Int) (h0 : 0 ≤ c) (h1 : c ≤ 255) : Go.bits .and .u8 c 127 = c % 128 := by
  have h' : ((List.range 256).all fun b => decide (Go.bits .and .u8 ((b : Nat) : Int) 127 = ((b : Nat) : Int) % 128)) = true := by decide +kernel
  have h2 := of_decide_eq_true (List.all_eq_true.1 h' c.toNat (List.mem_range.2 (by omega)))
  rw [Int.toNat_of_nonneg h0] at h2
  exact h2

theorem pow128 {i : Nat} (h : i ≤ 9) : (2 : Int) ^ (min (7 * (i : Int)).toNat 64) = 128 ^ i ∧ (128 : Int) ^ i = ((2 ^ (7 * i) : Nat) : Int) ∧ 2 ^ (7 * i) ≤ 9223372036854775808 := by
  have : i = 0 ∨ i = 1 ∨ i = 2 ∨ i = 3 ∨ i = 4 ∨ i = 5 ∨ i = 6 ∨ i = 7 ∨ i = 8 ∨ i = 9 := by omega
  rcases this with rfl | rfl | rfl | rfl | rfl | rfl | rfl | rfl | rfl | rfl <;> decide
theorem pow128_8 {i : Nat} (h : i ≤ 8) : 2 ^ (7 * i) ≤ 72057594037927936 := by
  have : i = 0 ∨ i = 1 ∨ i = 2 ∨ i = 3 ∨ i = 4 ∨ i = 5 ∨ i = 6 ∨ i = 7 ∨ i = 8 := by omega
  rcases this with rfl | rfl | rfl | rfl | rfl | rfl | rfl | rfl | rfl <;> decide

/-- One more group of bits. -/
theorem group (p : List Int) (c : Int) (h0 : 0 ≤ c) (h1 : c ≤ 255) (hp : p.length ≤ 9) (h9 : p.length = 9 → c = 1) :
    Go.bits .or .u64 (lv p) (shl .u64 (IntKind.u64.wrap (Go.bits .and .u8 c 127)) (7 * (p.length : Int))) = lv (p ++ [c]) := by
  obtain ⟨e1, e2, e3⟩ := pow128 hp
  have hr := lv_range p
  rw [and127 c h0 h1, u64w (by omega) (by omega)]
  show Go.bits .or .u64 (lv p) (IntKind.u64.wrap (c % 128 * 2 ^ (min (7 * (p.length : Int)).toNat 64))) = _
  rw [e1, lv_snoc]
  obtain ⟨a, ha⟩ := Int.eq_ofNat_of_zero_le hr.1
  obtain ⟨d, hd⟩ := Int.eq_ofNat_of_zero_le (show 0 ≤ c % 128 by omega)
  have hlt : a < 2 ^ (7 * p.length) := by have := hr.2; rw [e2, ha] at this; exact Int.ofNat_lt.1 this
  have hdl : d ≤ 127 := by omega
  have hd1 : p.length = 9 → d = 1 := fun h => by have := h9 h; omega
  have hb : 2 ^ (7 * p.length) * d + a < 18446744073709551616 := by
    by_cases h8 : p.length ≤ 8
    · have h3 := pow128_8 h8
      have := Nat.mul_le_mul h3 hdl
      omega
    · rw [hd1 (by omega)]
      omega
  rw [ha, hd, e2]
  have e4 : ((d : Int) * ((2 ^ (7 * p.length) : Nat) : Int)) = ((2 ^ (7 * p.length) * d : Nat) : Int) := by rw [Int.mul_comm]; exact (Int.natCast_mul _ d).symm
  have h := or_add' a d (7 * p.length) hlt hb
  generalize 2 ^ (7 * p.length) = P at *
  rw [e4, u64w (by omega) (by omega), h, Int.natCast_add, Int.natCast_mul]

theorem shape_loop (s : ByteArray) (hs : s.size ≤ 281474976710656) (t : List Int) : ∀ (p : List Int), bytesOf s = p ++ t → p.length ≤ 9 → Ev (fun k => codec_shape.l0 k s (lv p) (s.size : Int) (p.length : Int)) (rv p t) := by
  have hl := bytesOf_length s
  induction t with
  | nil =>
    intro p hp h9
    rw [hp] at hl
    simp at hl
    exact Ev.step (fun k => by simp only [codec_shape.l0]; exact rfl) (evIfNeg (by omega) (Ev.now _))
  | cons c t ih =>
    intro p hp h9
    have hl2 := hl
    rw [hp] at hl2
    simp at hl2
    have hbt : bt s (p.length : Int) = c := by
      rw [← rd_bytesOf, hp]; simp [rd, List.getD_eq_getElem?_getD]
    have hr := bt_range s (p.length : Int)
    rw [hbt] at hr
    have e1 : wrap64 ((p.length : Int) + 1) = (p.length : Int) + 1 := wrap64_id (by omega) (by omega)
    have e2 : wrap64 (7 * (p.length : Int)) = 7 * (p.length : Int) := wrap64_id (by omega) (by omega)
    refine Ev.step (fun k => by simp only [codec_shape.l0]; exact rfl) (evIfPos (by omega) (evIfPos (by omega) (evIfPos (by omega) ?_)))
    rw [hbt, rv]
    have good : ∀ (h9c : p.length = 9 → c = 1), Ev (fun k => codec_shape.j1 k s (lv p) (p.length : Int) c (s.size : Int) (p.length : Int) false) (if c < 128 then (if c = 0 ∧ 0 < p.length then (0, 0, 21) else (lv (p ++ [c]), (p.length : Int) + 1, 0)) else rv (p ++ [c]) t) := by
      intro h9c
      have hg := group p c hr.1 hr.2 h9 h9c
      refine Ev.step (fun k => by simp only [codec_shape.j1]; exact rfl) (evIfNeg (show ¬ (false = true) by decide) ?_)
      rw [e1, e2, hg]
      refine evIfPos (by omega) ?_
      by_cases hc : c < 128
      · rw [if_pos hc]
        refine evIfPos hc ?_
        by_cases hc0 : c = 0
        · refine evIfPos hc0 ?_
          by_cases hp0 : 0 < p.length
          · rw [if_pos (show c = 0 ∧ 0 < p.length from ⟨hc0, hp0⟩)]
            exact evIfPos (by omega) (Ev.now _)
          · rw [if_neg (show ¬ (c = 0 ∧ 0 < p.length) from fun h => hp0 h.2)]
            exact evIfNeg (by omega) (Ev.now _)
        · rw [if_neg (show ¬ (c = 0 ∧ 0 < p.length) from fun h => hc0 h.1)]
          exact evIfNeg hc0 (Ev.now _)
      · rw [if_neg hc]
        refine evIfNeg hc ?_
        have h := ih (p ++ [c]) (by rw [hp]; simp) (by rw [List.length_append, List.length_singleton]; have : p.length ≠ 9 := fun h => by have := h9c h; omega
                                                       omega)
        rw [List.length_append, List.length_singleton] at h
        exact h
    by_cases hp9 : p.length = 9
    · refine evIfPos (by omega) ?_
      by_cases hc1 : c = 1
      · rw [if_neg (show ¬ (p.length = 9 ∧ c ≠ 1) from fun h => h.2 hc1), show (c != 1) = false by simp [hc1]]
        exact good (fun _ => hc1)
      · rw [if_pos (show p.length = 9 ∧ c ≠ 1 from ⟨hp9, hc1⟩), show (c != 1) = true by simp [hc1]]
        exact Ev.step (fun k => by simp only [codec_shape.j1]; exact rfl) (evIfPos (show true = true from rfl) (Ev.now _))
    · rw [if_neg (show ¬ (p.length = 9 ∧ c ≠ 1) from fun h => hp9 h.1)]
      exact evIfNeg (by omega) (good (fun h => absurd h hp9))
theorem shape_ev (s : ByteArray) (hs : s.size ≤ 281474976710656) : Ev (fun k => codec_shape.f k s) (rv [] (bytesOf s)) := shape_loop s hs (bytesOf s) [] rfl (by decide)
end Go.Proofs.Ytjlohahknngmmaa.PureC
/- Walks: write (one step of a Writer), of whatever Writer; and what a nil Writer and a nil Reader answer. Printed by cdw.py. -/
namespace Go.Proofs.Ytjlohahknngmmaa
open Go Go.RowKit Go.Proofs.YtjlohahknngmmaaW.PrintWords Go.Proofs.YtjlohahknngmmaaW.PrintMore Go.Proofs.YtjlohahknngmmaaW.PrintLast Go.Proofs.Ytjlohahknngmmaa.PC Go.Proofs.Ytjlohahknngmmaa.PureC
set_option linter.unusedVariables false
set_option linter.unusedSimpArgs false

theorem Puts.later {p : Value} {xs : List Int} {w w' : World} {Q : World → Prop} (h : Puts p xs w Q) (hb : Below w.heap.size w w') : Puts p xs w' Q :=
  fun A n c w1 hr hb1 => h A n c w1 hr (hb.trans (hb1.mono hb.size))

/-- The bytes that a step puts. -/
def opBytes (kind n : Int) (s : ByteArray) : List Int :=
  if kind = 0 then nb (n % 256) 1 else if kind = 1 then nb (n % 65536) 2 else if kind = 2 then nb (n % 4294967296) 4 else if kind = 3 then nb n 8 else if kind = 4 then vb 9 n else if kind = 5 then vb 9 (s.size : Int) ++ bytesOf s else if kind = 6 then bytesOf s else []

set_option maxHeartbeats 2000000 in
theorem write_any (p : Value) (kind n : Int) (s : ByteArray) (w : World) (h0 : 0 ≤ n) (h1 : n < 18446744073709551616) (hs : s.size ≤ 140737488351232) (Q : World → Prop) (hq : Puts p (opBytes kind n s) w Q) (hq2 : kind < 0 ∨ 6 < kind → ∀ w1, Below w.heap.size w w1 → Q w1) :
    Calls Try.prog 20 #[p, .agg #[.int .i64 kind, .int .u64 n, .string s]] w fun e w' => e = .returned (.tuple #[]) ∧ Q w' := by
  have hu := Try.underlying41
  have h16 : IntKind.u16.wrap n = n % 65536 := rfl
  have HB := Aside0.mk (below_alloc (Below.refl w.heap.size w) (.cells #[.int .i64 kind, .int .u64 n, .string s] 41))
  by_cases hk : kind < 0 ∨ 6 < kind
  · have HQ := Aside0.mk (hq2 hk)
    have k0 : (kind == 0) = false := beq_eq_false_iff_ne.mpr (by omega)
    have k1 : (kind == 1) = false := beq_eq_false_iff_ne.mpr (by omega)
    have k2 : (kind == 2) = false := beq_eq_false_iff_ne.mpr (by omega)
    have k3 : (kind == 3) = false := beq_eq_false_iff_ne.mpr (by omega)
    have k4 : (kind == 4) = false := beq_eq_false_iff_ne.mpr (by omega)
    have k5 : (kind == 5) = false := beq_eq_false_iff_ne.mpr (by omega)
    have k6 : (kind == 6) = false := beq_eq_false_iff_ne.mpr (by omega)
    clear hk hq hq2
    go_enter Try.func20, Try.ntmps20
    go_wp2
    go_end0
    exact ⟨rfl, HQ.out _ HB.out⟩
  · have hc : kind = 0 ∨ kind = 1 ∨ kind = 2 ∨ kind = 3 ∨ kind = 4 ∨ kind = 5 ∨ kind = 6 := by omega
    clear hk hq2
    rcases hc with rfl | rfl | rfl | rfl | rfl | rfl | rfl
    · have HQ := Aside0.mk (hq.later HB.out)
      clear hq
      go_enter Try.func20, Try.ntmps20
      go_wp2_with (go_at_call 45; refine (u8_put _ (n % 256) _ (by omega) (by omega) Q HQ.out).mono ?_)
      rintro e w2 ⟨rfl, hQ⟩
      have HQ2 := Aside0.mk hQ
      clear hQ
      go_wp2
      go_end0
      exact ⟨rfl, HQ2.out⟩
    · have HQ := Aside0.mk (hq.later HB.out)
      clear hq
      go_enter Try.func20, Try.ntmps20
      go_wp2_with (go_at_call 46; refine (u16_put _ (n % 65536) _ (by omega) (by omega) Q HQ.out).mono ?_)
      rintro e w2 ⟨rfl, hQ⟩
      have HQ2 := Aside0.mk hQ
      clear hQ
      go_wp2
      go_end0
      exact ⟨rfl, HQ2.out⟩
    · have HQ := Aside0.mk (hq.later HB.out)
      clear hq
      go_enter Try.func20, Try.ntmps20
      go_wp2_with (go_at_call 47; refine (u32_put _ (n % 4294967296) _ (by omega) (by omega) Q HQ.out).mono ?_)
      rintro e w2 ⟨rfl, hQ⟩
      have HQ2 := Aside0.mk hQ
      clear hQ
      go_wp2
      go_end0
      exact ⟨rfl, HQ2.out⟩
    · have HQ := Aside0.mk (hq.later HB.out)
      clear hq
      go_enter Try.func20, Try.ntmps20
      go_wp2_with (go_at_call 48; refine (u64_put _ n _ h0 (by omega) Q HQ.out).mono ?_)
      rintro e w2 ⟨rfl, hQ⟩
      have HQ2 := Aside0.mk hQ
      clear hQ
      go_wp2
      go_end0
      exact ⟨rfl, HQ2.out⟩
    · have HQ := Aside0.mk (hq.later HB.out)
      clear hq
      go_enter Try.func20, Try.ntmps20
      go_wp2_with (go_at_call 13; refine (varint_put _ 10 n _ _ (varint_eq n h0 h1) Q HQ.out).mono ?_)
      rintro e w2 ⟨rfl, hQ⟩
      have HQ2 := Aside0.mk hQ
      clear hQ
      go_wp2
      go_end0
      exact ⟨rfl, HQ2.out⟩
    · have HQ := Aside0.mk (hq.later HB.out)
      clear hq
      go_enter Try.func20, Try.ntmps20
      go_wp2_with (go_at_call 36; refine (text_put _ 10 s _ _ (by omega) (varint_eq (s.size : Int) (by omega) (by omega)) (by have := vb_len 9 (s.size : Int); omega) Q HQ.out).mono ?_)
      rintro e w2 ⟨rfl, hQ⟩
      have HQ2 := Aside0.mk hQ
      clear hQ
      go_wp2
      go_end0
      exact ⟨rfl, HQ2.out⟩
    · have HQ := Aside0.mk (hq.later HB.out)
      clear hq
      go_enter Try.func20, Try.ntmps20
      go_wp2_with (go_at_call 49; refine (raw_put _ s _ (by omega) Q HQ.out).mono ?_)
      rintro e w2 ⟨rfl, hQ⟩
      have HQ2 := Aside0.mk hQ
      clear hQ
      go_wp2
      go_end0
      exact ⟨rfl, HQ2.out⟩

/-! ### Nobody -/
theorem puts_nil (xs : List Int) (w : World) : Puts (.pointer none) xs w (fun w2 => Below w.heap.size w w2) := by
  intro A n c w1 hr hb
  refine (put_nil _ w1).mono ?_
  rintro e w2 ⟨rfl, rfl⟩
  exact ⟨rfl, hb⟩
theorem write_nil (kind n : Int) (s : ByteArray) (w : World) (h0 : 0 ≤ n) (h1 : n < 18446744073709551616) (hs : s.size ≤ 140737488351232) :
    Calls Try.prog 20 #[.pointer none, .agg #[.int .i64 kind, .int .u64 n, .string s]] w fun e w' => e = .returned (.tuple #[]) ∧ Below w.heap.size w w' :=
  write_any _ kind n s w h0 h1 hs _ (puts_nil _ w) (fun _ w1 h => h)
set_option maxHeartbeats 1000000 in
theorem len_nil (w : World) : Calls Try.prog 22 #[.pointer none] w fun e w' => e = .returned (.int .i64 0) ∧ w' = w := by
  have hup := Try.underlying24
  go_enter Try.func22, Try.ntmps22
  go_wp2
  go_ret
  exact ⟨rfl, rfl⟩
set_option maxHeartbeats 1000000 in
theorem done_nil (w : World) : Calls Try.prog 14 #[.pointer none] w fun e w' => e = .returned (.tuple #[.string ⟨#[]⟩, .int .i64 6]) ∧ w' = w := by
  have hup := Try.underlying24
  go_enter Try.func14, Try.ntmps14
  go_wp2
  go_ret2
  exact ⟨rfl, rfl⟩
set_option maxHeartbeats 1000000 in
theorem rerr_nil (w : World) : Calls Try.prog 18 #[.pointer none] w fun e w' => e = .returned (.int .i64 6) ∧ w' = w := by
  have hup := Try.underlying30
  go_enter Try.func18, Try.ntmps18
  go_wp2
  go_ret
  exact ⟨rfl, rfl⟩
set_option maxHeartbeats 1000000 in
theorem left_nil (w : World) : Calls Try.prog 17 #[.pointer none] w fun e w' => e = .returned (.int .i64 0) ∧ w' = w := by
  have hup := Try.underlying30
  go_enter Try.func17, Try.ntmps17
  go_wp2
  go_ret
  exact ⟨rfl, rfl⟩
set_option maxHeartbeats 1000000 in
theorem rraw_nil (n : Int) (w : World) : Calls Try.prog 28 #[.pointer none, .int .i64 n] w fun e w' => e = .returned (.string ⟨#[]⟩) ∧ w' = w := by
  have hup := Try.underlying30
  go_enter Try.func28, Try.ntmps28
  go_wp2
  go_ret
  exact ⟨rfl, rfl⟩
set_option maxHeartbeats 1000000 in
theorem rvarint_nil (w : World) : Calls Try.prog 16 #[.pointer none] w fun e w' => e = .returned (.int .u64 0) ∧ w' = w := by
  have hup := Try.underlying30
  go_enter Try.func16, Try.ntmps16
  go_wp2
  go_ret
  exact ⟨rfl, rfl⟩
set_option maxHeartbeats 1000000 in
theorem rdone_nil (w : World) : Calls Try.prog 29 #[.pointer none] w fun e w' => e = .returned (.int .i64 6) ∧ Below w.heap.size w w' := by
  have hup := Try.underlying30
  go_enter Try.func29, Try.ntmps29
  go_wp2_with (go_at_call 18; refine (rerr_nil _).mono ?_)
  rintro e w1 ⟨rfl, hw⟩
  go_wp2
  go_ret
  first | exact ⟨rfl, hw⟩ | (subst hw; exact ⟨rfl, Below.refl _ _⟩)
set_option maxHeartbeats 1000000 in
theorem rtext_nil (w : World) : Calls Try.prog 27 #[.pointer none] w fun e w' => e = .returned (.string ⟨#[]⟩) ∧ Below w.heap.size w w' := by
  have hup := Try.underlying30
  go_enter Try.func27, Try.ntmps27
  go_wp2_with (go_at_call 16; refine (rvarint_nil _).mono ?_)
  rintro e w1 ⟨rfl, hw⟩
  go_wp2
  go_ret
  first | exact ⟨rfl, hw⟩ | (subst hw; exact ⟨rfl, Below.refl _ _⟩)
set_option maxHeartbeats 1000000 in
theorem read_nil (n : Int) (w : World) : Calls Try.prog 53 #[.pointer none, .int .i64 n] w fun e w' => e = .returned (.int .u64 0) ∧ Below w.heap.size w w' := by
  have hup := Try.underlying30
  have kb := print_bytes (P := Try.prog) 9 64 5 Try.underlying9 Try.underlying64 Try.underlying5 ⟨#[]⟩ w
  have Hb := Aside0.mk (bytes_below (Below.refl w.heap.size w) (Nat.le_refl _) 5 ⟨#[]⟩)
  generalize Lib.bytesWorld w 5 ⟨#[]⟩ = W1 at kb Hb
  rw [show (⟨#[]⟩ : ByteArray).size = 0 from rfl] at kb
  go_enter Try.func53, Try.ntmps53
  go_wp2_with (go_at_call 28; refine (rraw_nil n _).mono ?_)
  rintro e w1 ⟨rfl, hw⟩
  subst hw
  go_wp2
  go_loopw [5, 13] (fun nv iv wr => nv = .int .u64 0 ∧ iv = .int .i64 0 ∧ wr = W1) (fun _ _ _ => 0)
  case atStart => exact ⟨rfl, rfl, rfl⟩
  case round =>
    obtain ⟨rfl, rfl, rfl⟩ := hrel
    go_wp2
    go_ret
    exact ⟨rfl, Hb.out⟩
set_option maxHeartbeats 1000000 in
theorem ru8_nil (w : World) : Calls Try.prog 23 #[.pointer none] w fun e w' => e = .returned (.int .u8 0) ∧ Below w.heap.size w w' := by
  have hup := Try.underlying30
  go_enter Try.func23, Try.ntmps23
  go_wp2_with (go_at_call 53; refine (read_nil 1 _).mono ?_)
  rintro e w1 ⟨rfl, hw⟩
  go_wp2
  go_ret
  first | exact ⟨rfl, hw⟩ | (subst hw; exact ⟨rfl, Below.refl _ _⟩)
set_option maxHeartbeats 1000000 in
theorem ru16_nil (w : World) : Calls Try.prog 24 #[.pointer none] w fun e w' => e = .returned (.int .u16 0) ∧ Below w.heap.size w w' := by
  have hup := Try.underlying30
  go_enter Try.func24, Try.ntmps24
  go_wp2_with (go_at_call 53; refine (read_nil 2 _).mono ?_)
  rintro e w1 ⟨rfl, hw⟩
  go_wp2
  go_ret
  first | exact ⟨rfl, hw⟩ | (subst hw; exact ⟨rfl, Below.refl _ _⟩)
set_option maxHeartbeats 1000000 in
theorem ru32_nil (w : World) : Calls Try.prog 25 #[.pointer none] w fun e w' => e = .returned (.int .u32 0) ∧ Below w.heap.size w w' := by
  have hup := Try.underlying30
  go_enter Try.func25, Try.ntmps25
  go_wp2_with (go_at_call 53; refine (read_nil 4 _).mono ?_)
  rintro e w1 ⟨rfl, hw⟩
  go_wp2
  go_ret
  first | exact ⟨rfl, hw⟩ | (subst hw; exact ⟨rfl, Below.refl _ _⟩)
set_option maxHeartbeats 1000000 in
theorem ru64_nil (w : World) : Calls Try.prog 26 #[.pointer none] w fun e w' => e = .returned (.int .u64 0) ∧ Below w.heap.size w w' := by
  have hup := Try.underlying30
  go_enter Try.func26, Try.ntmps26
  go_wp2_with (go_at_call 53; refine (read_nil 8 _).mono ?_)
  rintro e w1 ⟨rfl, hw⟩
  go_wp2
  go_ret
  first | exact ⟨rfl, hw⟩ | (subst hw; exact ⟨rfl, Below.refl _ _⟩)
end Go.Proofs.Ytjlohahknngmmaa
