/- Keys, plain: the bytes of parts, their order, the range of a beginning, and back. -/
import Derived.Test.YtjlohahknngmmaaDoorCdM
namespace Go.Proofs.YtjlohahknngmmaaDoor.Ky
open Go Go.Op Go.Proofs.YtjlohahknngmmaaDoor
set_option linter.unusedVariables false
set_option linter.unusedSimpArgs false

def u8 (l : List Int) : List UInt8 := l.map fun n => UInt8.ofNat n.toNat
/-- A text's bytes, a 255 behind every 0. -/
def esc : List UInt8 → List UInt8
  | [] => []
  | c :: l => if c = 0 then 0 :: 255 :: esc l else c :: esc l
theorem esc_z (l : List UInt8) : esc (0 :: l) = 0 :: 255 :: esc l := by simp [esc]
theorem esc_n {c : UInt8} (h : c ≠ 0) (l : List UInt8) : esc (c :: l) = c :: esc l := by simp [esc, h]
theorem esc_append (a b : List UInt8) : esc (a ++ b) = esc a ++ esc b := by
  induction a with
  | nil => rfl
  | cons c a ih =>
    by_cases h : c = 0
    · subst h; rw [List.cons_append, esc_z, esc_z, ih]; rfl
    · rw [List.cons_append, esc_n h, esc_n h, ih]; rfl
theorem esc_none (a : List UInt8) (h : (0 : UInt8) ∉ a) : esc a = a := by
  induction a with
  | nil => rfl
  | cons c a ih => rw [esc_n (fun e => h (by simp [e])), ih (fun e => h (List.mem_cons_of_mem _ e))]
theorem esc_len (a : List UInt8) : (esc a).length ≤ 2 * a.length := by
  induction a with
  | nil => exact Nat.le_refl _
  | cons c a ih =>
    by_cases h : c = 0
    · subst h; rw [esc_z]; simp only [List.length_cons]; omega
    · rw [esc_n h]; simp only [List.length_cons]; omega

/-- A list that does not begin with 255. -/
def hd (l : List UInt8) : Prop := l.head? ≠ some 255
theorem hd_nil : hd [] := by simp [hd]
theorem bl_cons (a b : UInt8) (x y : List UInt8) : bytesLess (a :: x) (b :: y) = (decide (a < b) || (a == b && bytesLess x y)) := rfl
theorem bl_nil (x : List UInt8) : bytesLess x [] = false := by cases x <;> rfl
theorem bl_same (a : UInt8) (x y : List UInt8) : bytesLess (a :: x) (a :: y) = bytesLess x y := by
  rw [bl_cons, beq_self_eq_true, Bool.true_and, decide_eq_false (UInt8.lt_irrefl a), Bool.false_or]
theorem bl_pre (p x y : List UInt8) : bytesLess (p ++ x) (p ++ y) = bytesLess x y := by
  induction p with
  | nil => rfl
  | cons a p ih => rw [List.cons_append, List.cons_append, bl_same, ih]
theorem bl_lt {a b : UInt8} (h : a < b) (x y : List UInt8) : bytesLess (a :: x) (b :: y) = true := by rw [bl_cons, decide_eq_true h]; rfl
theorem bl_gt {a b : UInt8} (h : b < a) (x y : List UInt8) : bytesLess (a :: x) (b :: y) = false := by
  have h1 := UInt8.lt_iff_toNat_lt.1 h
  rw [bl_cons, decide_eq_false (fun h' => by have := UInt8.lt_iff_toNat_lt.1 h'; omega), beq_eq_false_iff_ne.2 (fun e => by rw [e] at h1; omega)]; rfl
theorem u_lt (a b : UInt8) : a < b ∨ a = b ∨ b < a := by
  rcases Nat.lt_trichotomy a.toNat b.toNat with h | h | h
  · exact .inl (UInt8.lt_iff_toNat_lt.2 h)
  · exact .inr (.inl (UInt8.toNat_inj.1 h))
  · exact .inr (.inr (UInt8.lt_iff_toNat_lt.2 h))
theorem z_lt {c : UInt8} (h : c ≠ 0) : (0 : UInt8) < c := by
  rcases u_lt 0 c with h' | h' | h'
  · exact h'
  · exact absurd h'.symm h
  · have := UInt8.lt_iff_toNat_lt.1 h'; exact absurd this (by simp)
theorem bl_ff {x : List UInt8} (h : hd x) (y : List UInt8) : bytesLess x (255 :: y) = true := by
  cases x with
  | nil => rfl
  | cons a x =>
    rcases u_lt a 255 with h' | rfl | h'
    · exact bl_lt h' _ _
    · simp [hd] at h
    · have := UInt8.lt_iff_toNat_lt.1 h'; have h2 := a.toNat_lt; simp at this; omega
theorem ff_bl {x : List UInt8} (h : hd x) (y : List UInt8) : bytesLess (255 :: y) x = false := by
  cases x with
  | nil => rfl
  | cons a x =>
    rcases u_lt a 255 with h' | rfl | h'
    · exact bl_gt h' _ _
    · simp [hd] at h
    · have := UInt8.lt_iff_toNat_lt.1 h'; have h2 := a.toNat_lt; simp at this; omega
theorem bl_irrefl (a : List UInt8) : bytesLess a a = false := by
  induction a with
  | nil => rfl
  | cons c a ih => rw [bl_same, ih]
theorem bl_tri : ∀ (a b : List UInt8), bytesLess a b = false → bytesLess b a = false → a = b
  | [], [], _, _ => rfl
  | [], _ :: _, h, _ => by cases h
  | _ :: _, [], _, h => by cases h
  | a :: x, b :: y, h, h' => by
    rcases u_lt a b with e | rfl | e
    · rw [bl_lt e] at h; cases h
    · rw [bl_same] at h h'; rw [bl_tri x y h h']
    · rw [bl_lt e] at h'; cases h'

theorem lt_esc : ∀ (t u x y : List UInt8), hd x → hd y → bytesLess (esc t ++ 0 :: x) (esc u ++ 0 :: y) = (bytesLess t u || (t == u && bytesLess x y))
  | [], [], x, y, _, _ => by
    show bytesLess (0 :: x) (0 :: y) = _
    rw [bl_same]; simp [bytesLess]
  | [], d :: u, x, y, hx, hy => by
    show bytesLess (0 :: x) (esc (d :: u) ++ 0 :: y) = true
    by_cases h : d = 0
    · subst h; rw [esc_z, List.cons_append, bl_same]; exact bl_ff hx _
    · rw [esc_n h, List.cons_append]; exact bl_lt (z_lt h) _ _
  | c :: t, [], x, y, hx, hy => by
    show bytesLess (esc (c :: t) ++ 0 :: x) (0 :: y) = false
    by_cases h : c = 0
    · subst h; rw [esc_z, List.cons_append, bl_same]; exact ff_bl hy _
    · rw [esc_n h, List.cons_append]; exact bl_gt (z_lt h) _ _
  | c :: t, d :: u, x, y, hx, hy => by
    have ih := lt_esc t u x y hx hy
    by_cases e : c = d
    · subst e
      have hr : (bytesLess (c :: t) (c :: u) || (c :: t == c :: u && bytesLess x y)) = (bytesLess t u || (t == u && bytesLess x y)) := by
        rw [bl_same]; simp
      rw [hr, ← ih]
      by_cases h : c = 0
      · subst h; rw [esc_z, esc_z]; show bytesLess (0 :: 255 :: (esc t ++ 0 :: x)) (0 :: 255 :: (esc u ++ 0 :: y)) = _; rw [bl_same, bl_same]
      · rw [esc_n h, esc_n h, List.cons_append, List.cons_append, bl_same]
    · have hr : (c :: t == d :: u) = false := by simp [e]
      rw [hr, Bool.false_and, Bool.or_false]
      rcases u_lt c d with h | h | h
      · rw [bl_lt h]
        have hd0 : d ≠ 0 := fun e0 => by subst e0; have := UInt8.lt_iff_toNat_lt.1 h; simp at this
        by_cases h0 : c = 0
        · subst h0; rw [esc_z, esc_n hd0, List.cons_append, List.cons_append]; exact bl_lt h _ _
        · rw [esc_n h0, esc_n hd0, List.cons_append, List.cons_append]; exact bl_lt h _ _
      · exact absurd h e
      · rw [bl_gt h]
        have hc0 : c ≠ 0 := fun e0 => by subst e0; have := UInt8.lt_iff_toNat_lt.1 h; simp at this
        by_cases h0 : d = 0
        · subst h0; rw [esc_z, esc_n hc0, List.cons_append, List.cons_append]; exact bl_gt h _ _
        · rw [esc_n h0, esc_n hc0, List.cons_append, List.cons_append]; exact bl_gt h _ _
/-- What lies above a text, lies above its key and a 255. -/
theorem lt_esc2 : ∀ (t u x : List UInt8), bytesLess t u = true → bytesLess (esc u ++ 0 :: x) (esc t ++ [0, 255]) = false
  | t, [], x, h => by rw [bl_nil] at h; cases h
  | [], d :: u, x, _ => by
    show bytesLess (esc (d :: u) ++ 0 :: x) [0, 255] = false
    by_cases h : d = 0
    · subst h; rw [esc_z, List.cons_append, bl_same, List.cons_append, bl_same, bl_nil]
    · rw [esc_n h, List.cons_append]; exact bl_gt (z_lt h) _ _
  | c :: t, d :: u, x, h => by
    rcases u_lt c d with e | rfl | e
    · have hd0 : d ≠ 0 := fun e0 => by subst e0; have := UInt8.lt_iff_toNat_lt.1 e; simp at this
      by_cases h0 : c = 0
      · subst h0; rw [esc_z, esc_n hd0, List.cons_append, List.cons_append]; exact bl_gt e _ _
      · rw [esc_n h0, esc_n hd0, List.cons_append, List.cons_append]; exact bl_gt e _ _
    · rw [bl_same] at h
      have ih := lt_esc2 t u x h
      by_cases h0 : c = 0
      · subst h0; rw [esc_z, esc_z]; show bytesLess (0 :: 255 :: (esc u ++ 0 :: x)) (0 :: 255 :: (esc t ++ [0, 255])) = _; rw [bl_same, bl_same]; exact ih
      · rw [esc_n h0, esc_n h0, List.cons_append, List.cons_append, bl_same]; exact ih
    · rw [bl_gt e] at h; cases h

/-! ### Numbers -/
theorem u8_append (a b : List Int) : u8 (a ++ b) = u8 a ++ u8 b := by simp [u8]
theorem nb_lex : ∀ (k : Nat) (n m : Int), 0 ≤ n → 0 ≤ m → n < 256 ^ k → m < 256 ^ k → ∀ x y : List UInt8, bytesLess (u8 (nb n k) ++ x) (u8 (nb m k) ++ y) = (decide (n < m) || (decide (n = m) && bytesLess x y))
  | 0, n, m, h0, h1, h2, h3, x, y => by
    obtain rfl : n = 0 := by simp at h2; omega
    obtain rfl : m = 0 := by simp at h3; omega
    simp [nb, u8]
  | k + 1, n, m, h0, h1, h2, h3, x, y => by
    rw [Int.pow_succ] at h2 h3
    have ih := nb_lex k (n / 256) (m / 256) (by omega) (by omega) (by omega) (by omega)
    show bytesLess (u8 (nb (n / 256) k ++ [n % 256]) ++ x) (u8 (nb (m / 256) k ++ [m % 256]) ++ y) = _
    rw [u8_append, u8_append, List.append_assoc, List.append_assoc, ih]
    show (decide (n / 256 < m / 256) || (decide (n / 256 = m / 256) && bytesLess (UInt8.ofNat (n % 256).toNat :: x) (UInt8.ofNat (m % 256).toNat :: y))) = _
    have ta : (UInt8.ofNat (n % 256).toNat).toNat = (n % 256).toNat := by rw [UInt8.toNat_ofNat', Nat.mod_eq_of_lt (by omega)]
    have tb : (UInt8.ofNat (m % 256).toNat).toNat = (m % 256).toNat := by rw [UInt8.toNat_ofNat', Nat.mod_eq_of_lt (by omega)]
    rcases (show n / 256 < m / 256 ∨ m / 256 < n / 256 ∨ n / 256 = m / 256 by omega) with h | h | h
    · rw [decide_eq_true h, decide_eq_true (show n < m by omega)]; rfl
    · rw [decide_eq_false (show ¬ n / 256 < m / 256 by omega), decide_eq_false (show ¬ n / 256 = m / 256 by omega), decide_eq_false (show ¬ n < m by omega), decide_eq_false (show ¬ n = m by omega)]; rfl
    · rw [decide_eq_false (show ¬ n / 256 < m / 256 by omega), decide_eq_true h, Bool.false_or, Bool.true_and]
      rcases (show n % 256 < m % 256 ∨ m % 256 < n % 256 ∨ n % 256 = m % 256 by omega) with g | g | g
      · rw [bl_lt (UInt8.lt_iff_toNat_lt.2 (by omega)), decide_eq_true (show n < m by omega)]; rfl
      · rw [bl_gt (UInt8.lt_iff_toNat_lt.2 (by omega)), decide_eq_false (show ¬ n < m by omega), decide_eq_false (show ¬ n = m by omega)]; rfl
      · rw [g, bl_same, decide_eq_false (show ¬ n < m by omega), decide_eq_true (show n = m by omega)]; simp

/-! ### Parts -/
inductive P where
  | n (x : Int)
  | t (l : List UInt8)
deriving DecidableEq
def P.ok : P → Prop
  | .n x => 0 ≤ x ∧ x < 256 ^ 8
  | .t _ => True
def enc : P → List UInt8
  | .n x => 1 :: u8 (nb x 8)
  | .t l => 2 :: (esc l ++ [0])
def encs : List P → List UInt8
  | [] => []
  | p :: l => enc p ++ encs l
theorem encs_append (a b : List P) : encs (a ++ b) = encs a ++ encs b := by
  induction a with
  | nil => rfl
  | cons p a ih => rw [List.cons_append, encs, encs, ih, List.append_assoc]
theorem hd_enc (p : P) (x : List UInt8) : hd (enc p ++ x) := by
  cases p <;> simp [hd, enc]
theorem hd_encs (l : List P) {x : List UInt8} (h : hd x) : hd (encs l ++ x) := by
  cases l with
  | nil => exact h
  | cons p l => rw [encs, List.append_assoc]; exact hd_enc p _
theorem hd_encs' (l : List P) : hd (encs l) := by have := hd_encs l hd_nil; rwa [List.append_nil] at this
def ltP : P → P → Bool
  | .n x, .n y => decide (x < y)
  | .n _, .t _ => true
  | .t _, .n _ => false
  | .t a, .t b => bytesLess a b
theorem ltP_tri (p q : P) (h : ltP p q = false) (h' : ltP q p = false) : p = q := by
  cases p <;> cases q <;> simp only [ltP, decide_eq_false_iff_not] at h h'
  · rename_i a b
    obtain rfl : a = b := by omega
    rfl
  · cases h
  · cases h'
  · rw [bl_tri _ _ h h']
theorem ltP_irr (p : P) : ltP p p = false := by
  cases p
  · simp [ltP]
  · exact bl_irrefl _
theorem enc_lt (p q : P) (x y : List UInt8) (hp : p.ok) (hq : q.ok) (hx : hd x) (hy : hd y) : bytesLess (enc p ++ x) (enc q ++ y) = (ltP p q || (decide (p = q) && bytesLess x y)) := by
  cases p <;> cases q
  · rename_i a b
    show bytesLess (1 :: (u8 (nb a 8) ++ x)) (1 :: (u8 (nb b 8) ++ y)) = _
    rw [bl_same, nb_lex 8 a b hp.1 hq.1 hp.2 hq.2]
    simp [ltP]
  · exact bl_lt (by decide) _ _
  · exact bl_gt (by decide) _ _
  · rename_i a b
    show bytesLess (2 :: (esc a ++ [0] ++ x)) (2 :: (esc b ++ [0] ++ y)) = _
    rw [bl_same, List.append_assoc, List.append_assoc]
    have h := lt_esc a b x y hx hy
    simp only [ltP]
    rw [show ([0] ++ x : List UInt8) = 0 :: x from rfl, show ([0] ++ y : List UInt8) = 0 :: y from rfl, h]
    congr 2
    rw [Bool.eq_iff_iff]; simp
def below : List P → List P → Bool
  | _, [] => false
  | [], _ :: _ => true
  | p :: a, q :: b => ltP p q || (decide (p = q) && below a b)
theorem encs_lt : ∀ (a b : List P), (∀ p ∈ a, p.ok) → (∀ p ∈ b, p.ok) → bytesLess (encs a) (encs b) = below a b
  | a, [], _, _ => by rw [show encs [] = [] from rfl, bl_nil]; cases a <;> rfl
  | [], q :: b, _, _ => by
    show bytesLess [] (enc q ++ encs b) = true
    cases q <;> rfl
  | p :: a, q :: b, ha, hb => by
    rw [encs, encs, enc_lt p q _ _ (ha p (by simp)) (hb q (by simp)) (hd_encs' _) (hd_encs' _), encs_lt a b (fun x h => ha x (by simp [h])) (fun x h => hb x (by simp [h]))]
    rfl
theorem below_tri : ∀ (a b : List P), below a b = false → below b a = false → a = b
  | [], [], _, _ => rfl
  | [], _ :: _, h, _ => by cases h
  | _ :: _, [], _, h => by cases h
  | p :: a, q :: b, h, h' => by
    simp only [below, Bool.or_eq_false_iff, Bool.and_eq_false_iff, decide_eq_false_iff_not] at h h'
    have e := ltP_tri p q h.1 h'.1
    subst e
    have h2 := h.2.resolve_left (fun g => g rfl)
    have h3 := h'.2.resolve_left (fun g => g rfl)
    rw [below_tri a b h2 h3]
theorem below_irr (a : List P) : below a a = false := by
  induction a with
  | nil => rfl
  | cons p a ih => simp only [below, ltP_irr, ih]; simp
theorem encs_inj (a b : List P) (ha : ∀ p ∈ a, p.ok) (hb : ∀ p ∈ b, p.ok) (h : encs a = encs b) : a = b := by
  apply below_tri
  · rw [← encs_lt a b ha hb, h, bl_irrefl]
  · rw [← encs_lt b a hb ha, h, bl_irrefl]

/-! ### The range of a beginning -/
theorem enc_lt2 (p q : P) (x : List UInt8) (hp : p.ok) (hq : q.ok) (hx : hd x) (y : List UInt8) (hy : hd y ∨ y = [255]) (h : ltP p q = true) : bytesLess (enc q ++ x) (enc p ++ y) = false := by
  rcases hy with hy | rfl
  · rw [enc_lt q p x y hq hp hx hy]
    have h1 : ltP q p = false := by
      cases hh : ltP q p with
      | false => rfl
      | true =>
        exfalso
        cases p <;> cases q <;> simp only [ltP, decide_eq_true_eq] at h hh
        · omega
        · cases hh
        · cases h
        · rename_i a b
          have : ∀ (a b : List UInt8), bytesLess a b = true → bytesLess b a = true → False := by
            intro a
            induction a with
            | nil => intro b _ h; rw [bl_nil] at h; cases h
            | cons c a ih =>
              intro b h h'
              cases b with
              | nil => rw [bl_nil] at h; cases h
              | cons d b =>
                rcases u_lt c d with e | rfl | e
                · rw [bl_gt e] at h'; cases h'
                · rw [bl_same] at h h'; exact ih b h h'
                · rw [bl_gt e] at h; cases h
          exact this a b h hh
    have h2 : ¬ q = p := fun e => by subst e; rw [ltP_irr] at h; cases h
    rw [h1, decide_eq_false h2]; rfl
  · cases p <;> cases q <;> simp only [ltP, decide_eq_true_eq] at h
    · rename_i a b
      show bytesLess (1 :: (u8 (nb b 8) ++ x)) (1 :: (u8 (nb a 8) ++ [255])) = _
      rw [bl_same, nb_lex 8 b a hq.1 hp.1 hq.2 hp.2, decide_eq_false (by omega), decide_eq_false (by omega)]; rfl
    · exact bl_gt (by decide) _ _
    · cases h
    · rename_i a b
      show bytesLess (2 :: (esc b ++ [0] ++ x)) (2 :: (esc a ++ [0] ++ [255])) = _
      rw [bl_same, List.append_assoc, List.append_assoc]
      exact lt_esc2 a b x h
theorem range_iff : ∀ (a b : List P), (∀ p ∈ a, p.ok) → (∀ p ∈ b, p.ok) → (!bytesLess (encs b) (encs a) && bytesLess (encs b) (encs a ++ [255])) = decide (a <+: b)
  | [], b, _, _ => by
    rw [show encs [] = [] from rfl, bl_nil, List.nil_append, bl_ff (hd_encs' b)]
    simp
  | p :: a, [], _, _ => by
    rw [show encs [] = [] from rfl, encs, decide_eq_false (by simp)]
    cases p <;> rfl
  | p :: a, q :: b, ha, hb => by
    have hp := ha p (by simp)
    have hq := hb q (by simp)
    rw [encs, encs]
    by_cases e : p = q
    · subst e
      rw [List.append_assoc, bl_pre, bl_pre, range_iff a b (fun x h => ha x (by simp [h])) (fun x h => hb x (by simp [h]))]
      exact decide_eq_decide.2 (by simp)
    · rw [decide_eq_false (by simp [e])]
      cases hl : ltP q p with
      | true => rw [enc_lt q p _ _ hq hp (hd_encs' _) (hd_encs' _), hl]; rfl
      | false =>
        have h2 : ltP p q = true := by
          cases hh : ltP p q with
          | true => rfl
          | false => exact absurd (ltP_tri p q hh hl) e
        rw [List.append_assoc, enc_lt2 p q _ hp hq (hd_encs' _) (encs a ++ [255]) (by
          cases a with
          | nil => exact .inr rfl
          | cons r a => exact .inl (by rw [encs, List.append_assoc]; exact hd_enc r _)) h2, Bool.and_false]

/-! ### Back -/
def unesc : List UInt8 → Option (List UInt8 × List UInt8)
  | [] => none
  | [0] => some ([], [])
  | c :: d :: l => if c = 0 then (if d = 255 then (unesc l).map fun x => (0 :: x.1, x.2) else some ([], d :: l)) else (unesc (d :: l)).map fun x => (c :: x.1, x.2)
  | [_] => none
theorem unesc_n {c : UInt8} (h : c ≠ 0) (l : List UInt8) : unesc (c :: l) = (unesc l).map fun x => (c :: x.1, x.2) := by
  cases l with
  | nil => rw [unesc.eq_4 c (fun e => h e)]; rfl
  | cons d l => rw [unesc.eq_3, if_neg h]
theorem unesc_ff (l : List UInt8) : unesc (0 :: 255 :: l) = (unesc l).map fun x => (0 :: x.1, x.2) := by rw [unesc.eq_3, if_pos rfl, if_pos rfl]
theorem unesc_z {l : List UInt8} (h : hd l) : unesc (0 :: l) = some ([], l) := by
  cases l with
  | nil => rfl
  | cons d l => rw [unesc.eq_3, if_pos rfl, if_neg (fun e => h (by rw [e]; rfl))]
theorem unesc_esc (t r : List UInt8) (h : hd r) : unesc (esc t ++ 0 :: r) = some (t, r) := by
  induction t with
  | nil => exact unesc_z h
  | cons c t ih =>
    by_cases h0 : c = 0
    · subst h0; rw [esc_z, List.cons_append, List.cons_append, unesc_ff, ih]; rfl
    · rw [esc_n h0, List.cons_append, unesc_n h0, ih]; rfl
theorem unesc_pre (a l : List UInt8) (h : (0 : UInt8) ∉ a) : unesc (a ++ l) = (unesc l).map fun x => (a ++ x.1, x.2) := by
  induction a with
  | nil => simp
  | cons c a ih =>
    rw [List.cons_append, unesc_n (fun e => h (by simp [e])), ih (fun e => h (List.mem_cons_of_mem _ e)), Option.map_map]
    rfl
theorem unesc_none (a : List UInt8) (h : (0 : UInt8) ∉ a) : unesc a = none := by
  have := unesc_pre a [] h
  rw [List.append_nil] at this
  rw [this]; rfl
end Go.Proofs.YtjlohahknngmmaaDoor.Ky
