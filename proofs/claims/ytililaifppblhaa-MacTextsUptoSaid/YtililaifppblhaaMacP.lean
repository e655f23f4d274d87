/- Plain: letters of four and of six bits. -/
import Derived.Test.YtililaifppblhaaUng
namespace Go.Proofs.Ytililaifppblhaa.Sha
open Go Go.RowKit Go.Proofs.Ytililaifppblhaa
set_option linter.unusedVariables false
set_option linter.unusedSimpArgs false

def hexL (l : List UInt8) : List Nat := l.flatMap fun c => [c.toNat / 16, c.toNat % 16]
theorem enc4 : ∀ l : List UInt8, encI 4 l 0 0 = hexL l
  | [] => by rw [encI_end (by omega), if_neg (by omega)]; rfl
  | c :: l => by
    have h := c.toNat_lt
    rw [encI_next (by omega), encI_more (by omega) (by omega), encI_more (by omega) (by omega)]
    simp only [Nat.zero_mul, Nat.zero_add, Nat.reduceSub, Nat.reducePow, Nat.div_one, Nat.mod_one, Nat.reduceAdd]
    rw [enc4 l]
    rfl
theorem hexL_len : ∀ l : List UInt8, (hexL l).length = 2 * l.length
  | [] => rfl
  | c :: l => by
    have := hexL_len l
    unfold hexL at *
    rw [List.flatMap_cons, List.length_append, this]
    simp only [List.length_cons, List.length_nil]
    omega
def b64L : List UInt8 → List Nat
  | [] => []
  | [a] => [a.toNat / 4, a.toNat % 4 * 16]
  | [a, b] => [a.toNat / 4, a.toNat % 4 * 16 + b.toNat / 16, b.toNat % 16 * 4]
  | a :: b :: c :: l => a.toNat / 4 :: (a.toNat % 4 * 16 + b.toNat / 16) :: (b.toNat % 16 * 4 + c.toNat / 64) :: c.toNat % 64 :: b64L l
theorem enc6a (a : UInt8) (l : List UInt8) : encI 6 (a :: l) 0 0 = a.toNat / 4 :: encI 6 l (a.toNat % 4) 2 := by
  have := a.toNat_lt
  rw [encI_next (by omega), encI_more (by omega) (by omega)]
  simp
theorem enc6b (n : Nat) (b : UInt8) (l : List UInt8) (h : n < 4) : encI 6 (b :: l) n 2 = (n * 16 + b.toNat / 16) :: encI 6 l (b.toNat % 16) 4 := by
  have := b.toNat_lt
  rw [encI_next (by omega), encI_more (by omega) (by omega)]
  simp only [Nat.reduceSub, Nat.reducePow, Nat.reduceAdd]
  rw [show (n * 256 + b.toNat) / 16 = n * 16 + b.toNat / 16 by omega, show (n * 256 + b.toNat) % 16 = b.toNat % 16 by omega]
theorem enc6c (n : Nat) (c : UInt8) (l : List UInt8) (h : n < 16) : encI 6 (c :: l) n 4 = (n * 4 + c.toNat / 64) :: c.toNat % 64 :: encI 6 l 0 0 := by
  have := c.toNat_lt
  rw [encI_next (by omega), encI_more (by omega) (by omega), encI_more (by omega) (by omega)]
  simp only [Nat.reduceSub, Nat.reducePow, Nat.reduceAdd, Nat.div_one, Nat.mod_one]
  rw [show (n * 256 + c.toNat) / 64 = n * 4 + c.toNat / 64 by omega, show (n * 256 + c.toNat) % 64 = c.toNat % 64 by omega]
theorem enc6 : ∀ l : List UInt8, encI 6 l 0 0 = b64L l
  | [] => by rw [encI_end (by omega), if_neg (by omega)]; rfl
  | [a] => by
    rw [enc6a, encI_end (by omega), if_pos (by omega)]; rfl
  | [a, b] => by
    rw [enc6a, enc6b _ _ _ (by omega), encI_end (by omega), if_pos (by omega)]; rfl
  | a :: b :: c :: l => by
    rw [enc6a, enc6b _ _ _ (by omega), enc6c _ _ _ (by omega), enc6 l]; rfl
theorem b64L_len : ∀ l : List UInt8, (b64L l).length = (4 * l.length + 2) / 3
  | [] => rfl
  | [a] => by simp [b64L]
  | [a, b] => by simp [b64L]
  | a :: b :: c :: l => by
    have := b64L_len l
    simp only [b64L, List.length_cons]
    omega
theorem hexL_lt (l : List UInt8) : ∀ x ∈ hexL l, x < 16 := by
  intro x hx
  unfold hexL at hx
  rw [List.mem_flatMap] at hx
  obtain ⟨c, _, h⟩ := hx
  have := c.toNat_lt
  simp at h
  omega
theorem b64L_lt : ∀ l : List UInt8, ∀ x ∈ b64L l, x < 64
  | [], x, hx => by cases hx
  | [a], x, hx => by
    have := a.toNat_lt
    simp [b64L] at hx; omega
  | [a, b], x, hx => by
    have := a.toNat_lt
    have := b.toNat_lt
    simp [b64L] at hx; omega
  | a :: b :: c :: l, x, hx => by
    have := a.toNat_lt
    have := b.toNat_lt
    have := c.toNat_lt
    simp only [b64L, List.mem_cons] at hx
    rcases hx with h | h | h | h | h
    · omega
    · omega
    · omega
    · omega
    · exact b64L_lt l x h
end Go.Proofs.Ytililaifppblhaa.Sha
