/- Plain laws of keys over the print: same parts, the order of parts, ranges. -/
import Derived.Test.YtjlohahknngmmaaDoorPKx6
namespace Go.Proofs.YtjlohahknngmmaaDoor.Ky
open Go Go.RowKit Go.Op Go.Proofs.YtjlohahknngmmaaDoor Go.Proofs.YtjlohahknngmmaaDoor.PK Go.Proofs.YtjlohahknngmmaaDoorW.PrintWords Go.Proofs.YtjlohahknngmmaaDoorW.PrintLast
set_option linter.unusedVariables false
set_option linter.unusedSimpArgs false

def sameS (x y : S51) : Bool := (x.f0.toList == y.f0.toList) && ((x.f1 == y.f1) && (x.f2 == y.f2))
def sameL : List S51 → List S51 → Bool
  | [], [] => true
  | x :: a, y :: b => sameS x y && sameL a b
  | _, _ => false
theorem sameS_iff (x y : S51) : sameS x y = true ↔ x = y := by
  obtain ⟨a, b, c⟩ := x
  obtain ⟨a', b', c'⟩ := y
  unfold sameS
  simp only [Bool.and_eq_true, beq_iff_eq, toList_inj]
  constructor
  · rintro ⟨rfl, rfl, rfl⟩; rfl
  · intro h; injection h with h1 h2 h3; exact ⟨h1, h2, h3⟩
theorem sameL_iff : ∀ a b : List S51, sameL a b = true ↔ a = b
  | [], [] => by simp [sameL]
  | [], _ :: _ => by simp [sameL]
  | _ :: _, [] => by simp [sameL]
  | x :: a, y :: b => by
    simp only [sameL, Bool.and_eq_true, sameS_iff, sameL_iff a b, List.cons.injEq]
theorem rd_at (l : List S51) (k : Nat) (h : k < l.length) : rd_T51 l (k : Int) = l[k] := by
  unfold rd_T51
  rw [Int.toNat_natCast, List.getD_eq_getElem?_getD, List.getElem?_eq_getElem h]; rfl
theorem same_loop (a b : List S51) (hl : a.length < 9223372036854775807) (he : a.length = b.length) (d : Nat) : ∀ i, i + d = a.length → Ev (fun k => atriumlaw02_sameParts.l0 k a b (a.length : Int) (i : Int)) (sameL (a.drop i) (b.drop i)) := by
  induction d with
  | zero =>
    intro i hi
    refine Ev.step (fun k => by simp only [atriumlaw02_sameParts.l0]; exact rfl) (evIfNeg (by omega) ?_)
    rw [List.drop_of_length_le (by omega), List.drop_of_length_le (by omega)]
    exact Ev.now _
  | succ d ih =>
    intro i hi
    have h1 := ih (i + 1) (by omega)
    have ha : i < a.length := by omega
    have hb : i < b.length := by omega
    refine Ev.step (fun k => by simp only [atriumlaw02_sameParts.l0]; exact rfl) (evIfPos (by omega) (evIfPos (by omega) (evIfPos (by omega) (evIfPos (by omega) ?_))))
    rw [List.drop_eq_getElem_cons ha, List.drop_eq_getElem_cons hb, rd_at a i ha, rd_at b i hb, wrap64_succ (by omega)]
    show Ev _ (sameS a[i] b[i] && sameL (a.drop (i + 1)) (b.drop (i + 1)))
    have e : (!((a[i].f0).toList == (b[i].f0).toList) || (!(a[i].f1 == b[i].f1) || !(a[i].f2 == b[i].f2))) = !(sameS a[i] b[i]) := by unfold sameS; simp only [Bool.not_and]
    cases hs : sameS a[i] b[i] with
    | false => rw [Bool.false_and]; exact evIfPos (by rw [e, hs]; rfl) (Ev.now _)
    | true => rw [Bool.true_and]; exact evIfNeg (by rw [e, hs]; decide) h1
theorem same_ev (a b : List S51) (hl : a.length < 9223372036854775807) : Ev (fun k => atriumlaw02_sameParts.f k a b) (sameL a b) := by
  unfold atriumlaw02_sameParts.f
  by_cases h : a.length = b.length
  · exact evIfPos (by omega) (same_loop a b hl h a.length 0 (by omega))
  · refine evIfNeg (by omega) ?_
    have : sameL a b = false := by
      rw [Bool.eq_false_iff]; intro e; rw [sameL_iff] at e; subst e; exact h rfl
    rw [this]
    exact Ev.now _

/-! ### The order of parts -/
theorem toP_inj {x y : S51} (hx : good x = true) (hy : good y = true) (h : toP x = toP y) : x = y := by
  obtain ⟨a, b, c⟩ := x
  obtain ⟨a', b', c'⟩ := y
  cases c <;> cases c' <;> simp [good, toP] at *
  · exact ⟨ByteArray.ext h, by rw [hx, hy]⟩
  · exact ⟨by rw [hx, hy], h⟩
theorem below_loop (a b : List S51) (hl : a.length < 9223372036854775807) (ha : ∀ x ∈ a, good x = true) (hb : ∀ x ∈ b, good x = true) (d : Nat) : ∀ i, i + d = a.length → i ≤ b.length → Ev (fun k => atriumref02_Below.l0 k a b (i : Int)) (below ((a.drop i).map toP) ((b.drop i).map toP)) := by
  induction d with
  | zero =>
    intro i hi hib
    refine Ev.step (fun k => by simp only [atriumref02_Below.l0]; exact rfl) (evIfNeg (by omega) ?_)
    refine Ev.step (fun k => by simp only [atriumref02_Below.j1]; exact rfl) (evIfNeg (by decide) ?_)
    rw [List.drop_of_length_le (by omega)]
    have e : below (([] : List S51).map toP) ((b.drop i).map toP) = decide ((a.length : Int) < (b.length : Int)) := by
      by_cases h : i < b.length
      · rw [List.drop_eq_getElem_cons h, decide_eq_true (by omega)]; rfl
      · rw [List.drop_of_length_le (by omega), decide_eq_false (by omega)]; rfl
    rw [e]
    exact Ev.now _
  | succ d ih =>
    intro i hi hib
    have hai : i < a.length := by omega
    refine Ev.step (fun k => by simp only [atriumref02_Below.l0]; exact rfl) (evIfPos (by omega) ?_)
    by_cases hbi : i < b.length
    · have h1 := ih (i + 1) (by omega) (by omega)
      refine Ev.step (fun k => by simp only [atriumref02_Below.j1]; exact rfl) (evIfPos (decide_eq_true (by omega)) (evIfPos (by omega) (evIfPos (by omega) (evIfPos (by omega) ?_))))
      rw [List.drop_eq_getElem_cons hai, List.drop_eq_getElem_cons hbi, rd_at a i hai, rd_at b i hbi, wrap64_succ (by omega)]
      have gx := ha a[i] (List.getElem_mem hai)
      have gy := hb b[i] (List.getElem_mem hbi)
      rw [List.map_cons, List.map_cons]
      show Ev _ (ltP (toP a[i]) (toP b[i]) || (decide (toP a[i] = toP b[i]) && below ((a.drop (i + 1)).map toP) ((b.drop (i + 1)).map toP)))
      generalize a[i] = x at *
      generalize b[i] = y at *
      cases hs : sameS x y with
      | true =>
        rw [(sameS_iff x y).1 hs, ltP_irr, decide_eq_true rfl, Bool.false_or, Bool.true_and]
        rw [(sameS_iff x y).1 hs] at hs
        exact evIfPos hs h1
      | false =>
        have hne : ¬ toP x = toP y := fun e => by
          rw [toP_inj gx gy e] at hs
          rw [(sameS_iff y y).2 rfl] at hs; cases hs
        rw [decide_eq_false hne, Bool.false_and, Bool.or_false]
        refine evIfNeg (show ¬ (sameS x y = true) by rw [hs]; decide) ?_
        obtain ⟨t, n, b1⟩ := x
        obtain ⟨t', n', b2⟩ := y
        dsimp only
        cases b1 <;> cases b2
        · refine evIfNeg (by decide) (evIfNeg (by decide) ?_)
          rw [ByteArray.toList_eq, ByteArray.toList_eq]
          exact Ev.now _
        · exact evIfPos rfl (Ev.now _)
        · exact evIfPos rfl (Ev.now _)
        · exact evIfNeg (by decide) (evIfPos rfl (Ev.now _))
    · refine Ev.step (fun k => by simp only [atriumref02_Below.j1]; exact rfl) (evIfNeg (by rw [decide_eq_false (by omega)]; decide) ?_)
      rw [List.drop_of_length_le (show b.length ≤ i by omega), List.map_nil]
      have e : below ((a.drop i).map toP) [] = decide ((a.length : Int) < (b.length : Int)) := by
        rw [decide_eq_false (by omega)]
        cases (a.drop i).map toP <;> rfl
      rw [e]
      exact Ev.now _
theorem below_ev (a b : List S51) (hl : a.length < 9223372036854775807) (ha : ∀ x ∈ a, good x = true) (hb : ∀ x ∈ b, good x = true) : Ev (fun k => atriumref02_Below.f k a b) (below (a.map toP) (b.map toP)) :=
  below_loop a b hl ha hb a.length 0 (by omega) (Nat.zero_le _)
theorem ok_of (l : List S51) (h : okL l = true) : ∀ p ∈ l.map toP, p.ok := by
  intro p hp
  obtain ⟨x, hx, rfl⟩ := List.mem_map.1 hp
  have := okL_all.1 h x hx
  unfold okS at this
  unfold toP
  split
  · exact ⟨this.1, by show _ < _; omega⟩
  · trivial
theorem map_inj : ∀ (a b : List S51), (∀ x ∈ a, good x = true) → (∀ x ∈ b, good x = true) → a.map toP = b.map toP → a = b
  | [], [], _, _, _ => rfl
  | [], _ :: _, _, _, h => by cases h
  | _ :: _, [], _, _, h => by cases h
  | x :: a, y :: b, ha, hb, h => by
    simp only [List.map_cons, List.cons.injEq] at h
    rw [toP_inj (ha x (by simp)) (hb y (by simp)) h.1, map_inj a b (fun z hz => ha z (by simp [hz])) (fun z hz => hb z (by simp [hz])) h.2]
theorem key_f (l : List S51) (hz : szs l ≤ 1048576) (ho : okL l = true) : codec_Key.f l = some (keyRes l) := by unfold codec_Key.f; rw [if_pos ⟨hz, ho⟩]
theorem refkey_f (l : List S51) (hz : szs l ≤ 1048576) (ho : okL l = true) : atriumref02_Key.f l = some (keyRes l) := by unfold atriumref02_Key.f; rw [if_pos ⟨hz, ho⟩]
theorem res_ok {l : List S51} (h : (keyRes l).2 = 0) : l.length ≤ 8 ∧ (∀ x ∈ l, good x = true) ∧ (keyRes l).1.toList = keyT l := by
  unfold keyRes at *
  split at h
  · cases h
  · split at h
    · rename_i h8 hg
      exact ⟨by omega, List.all_eq_true.1 hg, by rw [if_neg h8, if_pos hg, ByteArray.toList_eq]⟩
    · cases h
theorem keyT_lt (a b : List S51) (ha : okL a = true) (hb : okL b = true) : bytesLess (keyT a) (keyT b) = below (a.map toP) (b.map toP) := encs_lt _ _ (ok_of a ha) (ok_of b hb)
theorem keyT_eq (a b : List S51) (ha : okL a = true) (hb : okL b = true) (ga : ∀ x ∈ a, good x = true) (gb : ∀ x ∈ b, good x = true) : (keyT a == keyT b) = sameL a b := by
  rw [Bool.eq_iff_iff, sameL_iff, beq_iff_eq]
  constructor
  · intro h; exact map_inj a b ga gb (encs_inj _ _ (ok_of a ha) (ok_of b hb) h)
  · intro h; rw [h]
theorem order_law (a b : List S51) (hla : a.length ≤ 1048576) (ha : szs a ≤ 1048576) (hb : szs b ≤ 1048576) (oa : okL a = true) (ob : okL b = true) : Ev (fun k => atriumlaw02_CodecOrder.f k a b) true := by
  refine evBindc (a := true) rfl (evIfPos rfl ?_)
  refine evBindc (key_f a ha oa) (evBindc (key_f b hb ob) ?_)
  by_cases h1 : (keyRes a).2 = 0
  · refine evIfPos h1 ?_
    by_cases h2 : (keyRes b).2 = 0
    · obtain ⟨_, ga, ea⟩ := res_ok h1
      obtain ⟨_, gb, eb⟩ := res_ok h2
      refine Ev.step (fun k => by simp only [atriumlaw02_CodecOrder.j0]; exact rfl) (evIfNeg (by rw [h2]; decide) ?_)
      refine Ev.bind (below_ev a b (by omega) ga gb) ?_
      refine evIfPos (by rw [ea, eb, keyT_lt a b oa ob]; exact beq_self_eq_true _) ?_
      refine Ev.bind (same_ev a b (by omega)) ?_
      refine ⟨0, fun n _ => ?_⟩
      show some ((((keyRes a).1.toList == (keyRes b).1.toList) == sameL a b)) = some true
      rw [ea, eb, keyT_eq a b oa ob ga gb, beq_self_eq_true]
    · refine Ev.step (fun k => by simp only [atriumlaw02_CodecOrder.j0]; exact rfl) (evIfPos (by rw [bne_iff_ne]; exact h2) ?_)
      refine evBindc (refkey_f a ha oa) (evBindc (refkey_f b hb ob) ?_)
      refine evIfPos rfl ?_
      rw [beq_self_eq_true]
      exact Ev.now _
  · refine evIfNeg h1 ?_
    refine Ev.step (fun k => by simp only [atriumlaw02_CodecOrder.j0]; exact rfl) (evIfPos (show (true = true) from rfl) ?_)
    refine evBindc (refkey_f a ha oa) (evBindc (refkey_f b hb ob) ?_)
    refine evIfPos rfl ?_
    rw [beq_self_eq_true]
    exact Ev.now _

/-! ### Ranges -/
theorem prefix_same (a b : List S51) (ga : ∀ x ∈ a, good x = true) (gb : ∀ x ∈ b, good x = true) : decide (a.map toP <+: b.map toP) = (decide (a.length ≤ b.length) && sameL (b.take a.length) a) := by
  rw [Bool.eq_iff_iff, decide_eq_true_iff, Bool.and_eq_true, decide_eq_true_iff, sameL_iff]
  constructor
  · intro h
    have hl := h.length_le
    rw [List.length_map, List.length_map] at hl
    refine ⟨hl, ?_⟩
    rw [List.prefix_iff_eq_take, List.length_map, ← List.map_take] at h
    exact (map_inj a _ ga (fun x hx => gb x (List.mem_of_mem_take hx)) h).symm
  · rintro ⟨h1, h2⟩
    rw [List.prefix_iff_eq_take, List.length_map, ← List.map_take, h2]
theorem key_size (l : List S51) (hz : szs l ≤ 1048576) : (keyRes l).1.size ≤ 4194304 := by
  unfold keyRes
  split
  · show 0 ≤ _; omega
  · split
    · show (keyT l).toArray.size ≤ _
      rw [List.size_toArray]
      have := keyT_len l
      omega
    · show 0 ≤ _; omega
theorem range_law (a b : List S51) (hla : a.length ≤ 1048576) (hlb : b.length ≤ 1048576) (ha : szs a ≤ 1048576) (hb : szs b ≤ 1048576) (oa : okL a = true) (ob : okL b = true) : Ev (fun k => atriumlaw02_CodecRanges.f k a b) true := by
  have hks := key_size a ha
  have hR : codec_Range.f a = some (if (keyRes a).2 = 0 then ((keyRes a).1, (keyRes a).1 ++ (⟨#[255]⟩ : ByteArray), 0) else (⟨#[]⟩, ⟨#[]⟩, (keyRes a).2)) := by
    unfold codec_Range.f
    rw [key_f a ha oa, Option.bind_some]
    split
    · rw [if_pos (by omega)]
    · rfl
  have hQ : atriumref02_Range.f a = some (if (keyRes a).2 = 0 then ((keyRes a).1, (keyRes a).1 ++ (⟨#[255]⟩ : ByteArray), 0) else (⟨#[]⟩, ⟨#[]⟩, (keyRes a).2)) := by
    unfold atriumref02_Range.f
    rw [refkey_f a ha oa, Option.bind_some]
    split
    · rw [if_pos (by omega)]
    · rfl
  refine evBindc (a := true) rfl (evIfPos rfl ?_)
  refine evBindc hR (evBindc hQ (evIfPos rfl (evIfPos rfl ?_)))
  refine Ev.step (fun k => by simp only [atriumlaw02_CodecRanges.j0]; exact rfl) (evIfNeg (by rw [bne_self_eq_false]; decide) ?_)
  refine evBindc (key_f b hb ob) ?_
  by_cases h1 : (keyRes a).2 = 0
  · rw [if_pos h1]
    refine evIfPos rfl ?_
    by_cases h2 : (keyRes b).2 = 0
    · refine evIfPos h2 ?_
      obtain ⟨_, ga, ea⟩ := res_ok h1
      obtain ⟨_, gb, eb⟩ := res_ok h2
      have hw := range_iff (a.map toP) (b.map toP) (ok_of a oa) (ok_of b ob)
      rw [prefix_same a b ga gb] at hw
      have e2 : ((keyRes a).1 ++ (⟨#[255]⟩ : ByteArray)).toList = keyT a ++ [255] := by
        rw [ByteArray.toList_eq, ByteArray.data_append, Array.toList_append, ← ByteArray.toList_eq, ea]
      have hw2 : (!bytesLess (keyT b) (keyT a) && bytesLess (keyT b) (keyT a ++ [255])) = (decide (a.length ≤ b.length) && sameL (b.take a.length) a) := hw
      dsimp only
      rw [ea, eb, e2]
      by_cases hl : a.length ≤ b.length
      · rw [decide_eq_true hl, Bool.true_and] at hw2
        refine evIfPos (by omega) (evIfPos (by omega) (evIfPos (by omega) ?_))
        rw [Int.toNat_natCast]
        refine Ev.bind (same_ev (b.take a.length) a (by rw [List.length_take]; omega)) ?_
        rw [← hw2]
        cases hc : bytesLess (keyT b) (keyT a) with
        | true => exact evIfPos rfl (Ev.now _)
        | false =>
          refine evIfNeg (by decide) ?_
          rw [Bool.not_false, Bool.true_and, beq_self_eq_true]
          exact Ev.now _
      · rw [decide_eq_false hl, Bool.false_and] at hw2
        refine evIfNeg (by omega) ?_
        cases hc : bytesLess (keyT b) (keyT a) with
        | true => exact evIfPos rfl (Ev.now _)
        | false =>
          rw [hc, Bool.not_false, Bool.true_and] at hw2
          refine evIfNeg (by decide) ?_
          rw [hw2]
          exact Ev.now _
    · exact evIfNeg h2 (Ev.now _)
  · rw [if_neg h1]
    exact evIfNeg h1 (Ev.now _)
end Go.Proofs.YtjlohahknngmmaaDoor.Ky
