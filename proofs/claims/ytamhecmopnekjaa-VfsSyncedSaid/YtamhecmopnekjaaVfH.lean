/- vfs: what equals is told the same; what a crash keeps. -/
import Derived.Test.YtamhecmopnekjaaVfII
namespace Go.Proofs.Ytamhecmopnekjaa.Vf
open Go Go.RowKit Go.Maps Go.Proofs.Ytamhecmopnekjaa Go.Proofs.YtamhecmopnekjaaW.PrintWords
set_option linter.unusedVariables false
set_option linter.unusedSimpArgs false

theorem wrap_succ {i : Nat} (h : i < 9223372036854775807) : wrap64 ((i : Int) + 1) = ((i + 1 : Nat) : Int) := by unfold wrap64; omega
theorem sameB_l (x y : List Int) (hl : x.length = y.length) (hx : x.length < 9223372036854775807) : ∀ n i k, i + n = x.length → n < k → ∃ r, PB.atriumlaw01_sameBytes.l0 k x y (i : Int) = some r ∧ (x = y → r = true)
  | _, _, 0, _, h => by cases h
  | 0, i, k + 1, hi, _ => by
    refine ⟨true, ?_, fun _ => rfl⟩
    unfold PB.atriumlaw01_sameBytes.l0
    rw [if_neg (by omega)]
  | n + 1, i, k + 1, hi, hk => by
    obtain ⟨r, hr, ht⟩ := sameB_l x y hl hx n (i + 1) k (by omega) (by omega)
    by_cases he : rd x (i : Int) = rd y (i : Int)
    · refine ⟨r, ?_, ht⟩
      unfold PB.atriumlaw01_sameBytes.l0
      rw [if_pos (by omega), if_pos (by omega), if_pos (by omega), if_pos he, wrap_succ (by omega)]
      exact hr
    · refine ⟨false, ?_, fun e => absurd (by rw [e]) he⟩
      unfold PB.atriumlaw01_sameBytes.l0
      rw [if_pos (by omega), if_pos (by omega), if_pos (by omega), if_neg he]
/-- sameBytes comes to an end, and tells that equal bytes are the same. -/
theorem sameB_f (x y : List Int) (hx : x.length < 9223372036854775807) (k : Nat) (hk : x.length < k) : ∃ r, PB.atriumlaw01_sameBytes.f k x y = some r ∧ (x = y → r = true) := by
  unfold PB.atriumlaw01_sameBytes.f
  by_cases hl : x.length = y.length
  · rw [if_pos (by omega)]
    exact sameB_l x y hl hx x.length 0 k (by omega) hk
  · rw [if_neg (by omega)]
    exact ⟨false, rfl, fun e => absurd (by rw [e]) hl⟩
theorem sameF_l (xs : List SF) (M : Nat) (hx : xs.length < 9223372036854775807) (hM : M < 9223372036854775807) (hb : ∀ x ∈ xs, x.f1.length ≤ M) : ∀ n i k, i + n = xs.length → n + M + 1 < k → PB.atriumlaw01_SameFiles.l0 k xs xs (i : Int) = some true
  | _, _, 0, _, h => by cases h
  | 0, i, k + 1, hi, _ => by
    unfold PB.atriumlaw01_SameFiles.l0
    rw [if_neg (by omega)]
  | n + 1, i, k + 1, hi, hk => by
    have hlt : i < xs.length := by omega
    have hm : (PB.rd_T37 xs (i : Int)).f1.length ≤ M := by
      unfold PB.rd_T37
      rw [Int.toNat_natCast, List.getD_eq_getElem?_getD, List.getElem?_eq_getElem hlt]
      exact hb _ (List.getElem_mem hlt)
    obtain ⟨r, hr, ht⟩ := sameB_f (PB.rd_T37 xs (i : Int)).f1 (PB.rd_T37 xs (i : Int)).f1 (by omega) k (by omega)
    rw [ht rfl] at hr
    have ih := sameF_l xs M hx hM hb n (i + 1) k (by omega) (by omega)
    unfold PB.atriumlaw01_SameFiles.l0
    rw [if_pos (by omega), if_pos (by omega), if_pos (by omega), if_pos rfl, if_pos rfl, hr]
    rw [Option.bind_some, if_pos rfl, wrap_succ (by omega)]
    exact ih
theorem sameF_f (xs : List SF) (M : Nat) (hx : xs.length < 9223372036854775807) (hM : M < 9223372036854775807) (hb : ∀ x ∈ xs, x.f1.length ≤ M) : PB.atriumlaw01_SameFiles.f (xs.length + M + 2) xs xs = some true := by
  unfold PB.atriumlaw01_SameFiles.f
  rw [if_pos rfl]
  exact sameF_l xs M hx hM hb xs.length 0 _ (by omega) (by omega)
/-! ### What a crash keeps -/
def blk (D : Dt) (j : Nat) : Nat := (look D ((names D).getD j ByteArray.empty)).getD 0
theorem crashFl_succ (D : Dt) (ks : List Int) (fl : Nat → VFile) (j : Nat) : crashFl D ks fl (j + 1) = updF (crashFl D ks fl j) (blk D j) (crashX (crashFl D ks fl j (blk D j)) (moreX (crashFl D ks fl j (blk D j)) ks[j]?)) := rfl
theorem updF_eq (fl : Nat → VFile) (b : Nat) : updF fl b (fl b) = fl := by
  funext k
  unfold updF
  split
  · rename_i h; rw [h]
  · rfl
theorem crashX_still (x : VFile) (k : Option Int) (h : x.synced = x.bytes.length) (hk : ∀ i, k = some i → 0 ≤ i) : crashX x (moreX x k) = x := by
  have hm : moreX x k = 0 := by
    unfold moreX
    split
    · rename_i i
      have := hk i rfl
      omega
    · rfl
  rw [hm]
  unfold crashX
  show (⟨x.bytes.take (x.synced + 0), x.synced + 0⟩ : VFile) = x
  rw [Nat.add_zero, List.take_of_length_le (by omega)]
/-- A file system whose files all last stays as it is. -/
theorem crashFl_still (D : Dt) (ks : List Int) (fl : Nat → VFile) (hk : ∀ k ∈ ks, 0 ≤ k) (hs : ∀ j, j < (names D).length → (fl (blk D j)).synced = (fl (blk D j)).bytes.length) : ∀ j, j ≤ (names D).length → crashFl D ks fl j = fl
  | 0, _ => rfl
  | j + 1, hj => by
    rw [crashFl_succ, crashFl_still D ks fl hk hs j (by omega), crashX_still _ _ (hs j (by omega)) (fun i hi => hk i (List.mem_of_getElem? hi)), updF_eq]
/-- How a file stands behind a crash to the file ahead of it. -/
structure Cut (x y : VFile) : Prop where
  pre : y.bytes = x.bytes.take y.bytes.length
  lo : x.synced ≤ y.synced
  hi : y.bytes.length ≤ x.bytes.length
theorem Cut.refl (x : VFile) : Cut x x := ⟨by rw [List.take_length], Nat.le_refl _, Nat.le_refl _⟩
theorem cut_crash (D : Dt) (ks : List Int) (fl : Nat → VFile) (fb : List Nat) (hF : FOk fb fl) (hk : ∀ k ∈ ks, 0 ≤ k) (hb : ∀ j, j < (names D).length → blk D j ∈ fb) : ∀ n, n ≤ (names D).length → (∀ b ∈ fb, Cut (fl b) (crashFl D ks fl n b)) ∧ (∀ j, j < n → (crashFl D ks fl n (blk D j)).synced = (crashFl D ks fl n (blk D j)).bytes.length)
  | 0, _ => ⟨fun b hbm => Cut.refl _, fun j hj => by cases hj⟩
  | n + 1, hn => by
    obtain ⟨ih1, ih2⟩ := cut_crash D ks fl fb hF hk hb n (by omega)
    have hok := fok_crash hF hk hb n (by omega)
    have hx := crashX_ok (x := crashFl D ks fl n (blk D n)) (k := ks[n]?) (hok _ (hb n (by omega))) (fun i hi => hk i (List.mem_of_getElem? hi))
    rw [crashFl_succ]
    refine ⟨fun b hbm => ?_, fun j hj => ?_⟩
    · unfold updF
      split
      · rename_i e
        subst e
        have hc := ih1 _ hbm
        have hl := hx.2.1
        have he := hx.1
        have hm1 := hx.2.2.1
        have hm2 := hx.2.2.2
        generalize moreX (crashFl D ks fl n (blk D n)) ks[n]? = m at *
        generalize crashFl D ks fl n (blk D n) = y at *
        have hsy := (hok _ hbm)
        have hyl : (crashX y m).bytes.length = y.synced + m.toNat := he
        refine ⟨?_, ?_, ?_⟩
        · rw [hyl]
          show y.bytes.take (y.synced + m.toNat) = _
          rw [hc.pre, List.take_take]
          congr 1
          omega
        · have := hc.lo
          show _ ≤ y.synced + m.toNat
          omega
        · have := hc.hi
          omega
      · exact ih1 b hbm
    · by_cases e : blk D j = blk D n
      · rw [e]
        show (updF _ _ _ _).synced = (updF _ _ _ _).bytes.length
        rw [updF_same]
        exact hx.1.symm
      · show (updF _ _ _ _).synced = (updF _ _ _ _).bytes.length
        unfold updF
        rw [if_neg e]
        exact ih2 j (by rcases Nat.lt_or_ge j n with h | h; exact h; exact absurd (by rw [show j = n by omega]) e)
end Go.Proofs.Ytamhecmopnekjaa.Vf
