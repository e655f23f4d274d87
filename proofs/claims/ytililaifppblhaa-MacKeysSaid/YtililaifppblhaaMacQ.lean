/- Plain: Mac and Derive, as printed. -/
import Derived.Test.YtililaifppblhaaPMx2
import Derived.Test.YtililaifppblhaaMacP
import Derived.Test.YtililaifppblhaaPcB
namespace Go.Proofs.Ytililaifppblhaa.Pure
open Go Go.RowKit Go.Proofs.Ytililaifppblhaa Go.Proofs.Ytililaifppblhaa.PM Go.Proofs.YtililaifppblhaaW.PrintWords Go.Proofs.YtililaifppblhaaW.PrintLast
set_option linter.unusedSimpArgs false
set_option linter.unusedVariables false

theorem sumF (s : ByteArray) (h : s.size ≤ 1152921504606846976) : mac_Sum.f s = some (sumT s) := if_pos h
theorem rsumF (s : ByteArray) (h : s.size ≤ 140737488354900) : atriumref04_Sum.f s = some (sumT s) := if_pos h
theorem turnedL_size (K : ByteArray) (c : UInt8) (h : K.size ≤ 64) : (⟨(Sha.turnedL K.data.toList c).toArray⟩ : ByteArray).size = 64 := by
  show (Sha.turnedL K.data.toList c).toArray.size = 64
  rw [List.size_toArray]
  unfold Sha.turnedL
  rw [List.length_map, Sha.key64_len _ (by rw [Array.length_toList]; exact h)]
theorem mac_j0 (K text : ByteArray) (hK : K.size ≤ 64) (ht : text.size ≤ 1152921504606846000) (k : Nat) :
    mac_Mac.j0 (k + 1) K text = some (sumT (⟨(Sha.turnedL K.data.toList 92).toArray⟩ ++ sumT (⟨(Sha.turnedL K.data.toList 54).toArray⟩ ++ text))) := by
  have e1 : mac_turned.f K 92 = some ⟨(Sha.turnedL K.data.toList 92).toArray⟩ := if_pos ⟨hK, by omega, by omega⟩
  have e2 : mac_turned.f K 54 = some ⟨(Sha.turnedL K.data.toList 54).toArray⟩ := if_pos ⟨hK, by omega, by omega⟩
  have s1 := turnedL_size K 92 hK
  have s2 := turnedL_size K 54 hK
  rw [mac_Mac.j0, e1, e2]
  generalize (⟨(Sha.turnedL K.data.toList 92).toArray⟩ : ByteArray) = O at *
  generalize (⟨(Sha.turnedL K.data.toList 54).toArray⟩ : ByteArray) = I at *
  simp only [Option.bind_some]
  rw [if_pos (by omega), sumF _ (by rw [ByteArray.size_append]; omega)]
  simp only [Option.bind_some]
  rw [if_pos (by rw [sumT_size]; omega), sumF _ (by rw [ByteArray.size_append, sumT_size]; omega)]
  rfl
theorem macF (key text : ByteArray) (hk : key.size ≤ 1152921504606846976) (ht : text.size ≤ 1152921504606846000) (k : Nat) : mac_Mac.f (k + 1) key text = some (Sha.macT key text) := by
  unfold mac_Mac.f Sha.macT Sha.keyOf
  by_cases h : key.size ≤ 64
  · rw [if_neg (by omega), if_pos h, mac_j0 key text h ht]
  · rw [if_pos (by omega), if_neg h, sumF key hk]
    simp only [Option.bind_some]
    rw [mac_j0 _ text (by rw [sumT_size]; omega) ht]
theorem evMac (key text : ByteArray) (hk : key.size ≤ 1152921504606846976) (ht : text.size ≤ 1152921504606846000) : Ev (fun k => mac_Mac.f k key text) (Sha.macT key text) :=
  ⟨1, fun k hk' => by obtain ⟨m, rfl⟩ : ∃ m, k = m + 1 := ⟨k - 1, by omega⟩; exact macF key text hk ht m⟩
theorem rmacF (key text : ByteArray) (hk : key.size ≤ 140737488354900) (ht : text.size ≤ 140737488354800) : atriumref04_Mac.f key text = some (Sha.macT key text) := if_pos ⟨hk, ht⟩
theorem macT_size (key text : ByteArray) : (Sha.macT key text).size = 32 := sumT_size _

/-! ### Derive -/
def one (i : Nat) : ByteArray := strOfNums [(i : Int) % 256]
theorem one_size (i : Nat) : (one i).size = 1 := rfl
/-- What has been derived, and the last piece of it. -/
def hk (p info : ByteArray) : Nat → ByteArray × ByteArray
  | 0 => (⟨#[]⟩, ⟨#[]⟩)
  | j + 1 => ((hk p info j).1 ++ Sha.macT p ((hk p info j).2 ++ info ++ one (j + 1)), Sha.macT p ((hk p info j).2 ++ info ++ one (j + 1)))
theorem hk_size (p info : ByteArray) : ∀ j, (hk p info j).1.size = 32 * j
  | 0 => rfl
  | j + 1 => by rw [hk, ByteArray.size_append, macT_size, hk_size p info j]; omega
theorem hk_last (p info : ByteArray) (j : Nat) : (hk p info j).2.size ≤ 32 := by
  cases j with
  | zero => exact Nat.zero_le _
  | succ j => rw [hk, macT_size]; omega
theorem macL (p info : ByteArray) (n : Nat) (hp : p.size ≤ 64) (hi : info.size ≤ 140737488351232) (hn : n ≤ 8160) :
    ∀ (d j : Nat), 32 * j < n + 32 → n ≤ 32 * (j + d) → Ev (fun k => mac_Derive.l0 k info (n : Int) p (hk p info j).1 (hk p info j).2 ((j + 1 : Nat) : Int)) ((hk p info ((n + 31) / 32)).1.extract 0 n, true)
  | d, j, h1, h2 => by
    have hs := hk_size p info j
    have hl := hk_last p info j
    by_cases hlt : 32 * j < n
    · obtain ⟨d, rfl⟩ : ∃ m, d = m + 1 := ⟨d - 1, by omega⟩
      refine Ev.step (f := fun k => _) (fun k => by rw [mac_Derive.l0]) ?_
      refine evIfPos (by omega) ?_
      refine evIfPos (by omega) ?_
      refine evBindc (a := [((j + 1 : Nat) : Int) % 256]) rfl ?_
      have e1 : (strOfNums [((j + 1 : Nat) : Int) % 256]).size = 1 := rfl
      refine evIfPos (by rw [ByteArray.size_append, e1]; omega) ?_
      refine Ev.bind (evMac p _ (by omega) (by rw [ByteArray.size_append, ByteArray.size_append, e1]; omega)) ?_
      refine evIfPos (by rw [macT_size]; omega) ?_
      rw [wrap64_succ (by omega)]
      exact macL p info n hp hi hn d (j + 1) (by omega) (by omega)
    · have hj : (n + 31) / 32 = j := by omega
      refine Ev.step (f := fun k => _) (fun k => by rw [mac_Derive.l0]) ?_
      refine evIfNeg (by omega) ?_
      refine evIfPos (by omega) ?_
      refine evIfPos (by omega) ?_
      rw [hj]
      exact Ev.now _
theorem refL (p info : ByteArray) (n : Nat) (hp : p.size ≤ 64) (hi : info.size ≤ 140737488351232) (hn : n ≤ 8160) :
    ∀ (d j : Nat), 32 * j < n + 32 → n ≤ 32 * (j + d) → Ev (fun k => atriumref04_Derive.l0 k info (n : Int) p (hk p info j).1 (hk p info j).2 ((j + 1 : Nat) : Int)) ((hk p info ((n + 31) / 32)).1.extract 0 n, true)
  | d, j, h1, h2 => by
    have hs := hk_size p info j
    have hl := hk_last p info j
    by_cases hlt : 32 * j < n
    · obtain ⟨d, rfl⟩ : ∃ m, d = m + 1 := ⟨d - 1, by omega⟩
      refine Ev.step (f := fun k => _) (fun k => by rw [atriumref04_Derive.l0]) ?_
      refine evIfPos (by omega) ?_
      refine evIfPos (by omega) ?_
      refine evBindc (a := [((j + 1 : Nat) : Int) % 256]) rfl ?_
      have e1 : (strOfNums [((j + 1 : Nat) : Int) % 256]).size = 1 := rfl
      refine evIfPos (by rw [ByteArray.size_append, e1]; omega) ?_
      refine evBindc (rmacF p _ (by omega) (by rw [ByteArray.size_append, ByteArray.size_append, e1]; omega)) ?_
      refine evIfPos (by rw [macT_size]; omega) ?_
      rw [wrap64_succ (by omega)]
      exact refL p info n hp hi hn d (j + 1) (by omega) (by omega)
    · have hj : (n + 31) / 32 = j := by omega
      refine Ev.step (f := fun k => _) (fun k => by rw [atriumref04_Derive.l0]) ?_
      refine evIfNeg (by omega) ?_
      refine evIfPos (by omega) ?_
      refine evIfPos (by omega) ?_
      rw [hj]
      exact Ev.now _
def z32 : ByteArray := ⟨(List.replicate 32 0).toArray⟩
def saltOf (salt : ByteArray) : ByteArray := if salt.size = 0 then z32 else salt
def derT (key salt info : ByteArray) (n : Nat) : ByteArray := (hk (Sha.macT (saltOf salt) key) info ((n + 31) / 32)).1.extract 0 n
theorem toList_nil_iff (s : ByteArray) : s.toList = [] ↔ s.size = 0 := by
  rw [ByteArray.toList_eq]
  constructor
  · intro h
    have : s.data.toList.length = 0 := by rw [h]; rfl
    rw [Array.length_toList] at this
    exact this
  · intro h
    apply List.eq_nil_of_length_eq_zero
    rw [Array.length_toList]
    exact h
theorem rep32 : strings_Repeat.f (⟨#[0]⟩ : ByteArray) 32 = some z32 := if_pos ⟨rfl, by omega, by omega⟩
theorem z32_str : strOfNums (List.replicate 32 0) = z32 := by decide +kernel
theorem evDer (key salt info : ByteArray) (n : Nat) (h1 : key.size ≤ 140737488351232) (h2 : salt.size ≤ 140737488351232) (h3 : info.size ≤ 140737488351232) (hn : n ≤ 8160) :
    Ev (fun k => mac_Derive.f k key salt info (n : Int)) (derT key salt info n, true) := by
  have main : ∀ s : ByteArray, s.size ≤ 140737488351232 → Ev (fun k => mac_Derive.j1 k key s info (n : Int)) ((hk (Sha.macT s key) info ((n + 31) / 32)).1.extract 0 n, true) := by
    intro s hs
    refine Ev.step (f := fun k => _) (fun k => by rw [mac_Derive.j1]) ?_
    refine Ev.bind (evMac s key (by omega) (by omega)) ?_
    exact macL (Sha.macT s key) info n (by rw [macT_size]; omega) h3 hn 256 0 (by omega) (by omega)
  unfold derT saltOf
  simp only [mac_Derive.f]
  refine evIfNeg (by omega) ?_
  rw [decide_eq_false (by omega)]
  refine Ev.step (f := fun k => _) (fun k => by rw [mac_Derive.j0]) ?_
  refine evIfNeg (by decide) ?_
  by_cases hz : salt.size = 0
  · refine evIfPos ((toList_nil_iff salt).2 hz) ?_
    refine evBindc rep32 ?_
    rw [if_pos hz]
    exact main z32 (by decide)
  · refine evIfNeg (fun h => hz ((toList_nil_iff salt).1 h)) ?_
    rw [if_neg hz]
    exact main salt h2
theorem evRDer (key salt info : ByteArray) (n : Nat) (h1 : key.size ≤ 140737488351232) (h2 : salt.size ≤ 140737488351232) (h3 : info.size ≤ 140737488351232) (hn : n ≤ 8160) :
    Ev (fun k => atriumref04_Derive.f k key salt info (n : Int)) (derT key salt info n, true) := by
  have main : ∀ s : ByteArray, s.size ≤ 140737488351232 → Ev (fun k => atriumref04_Derive.j1 k key s info (n : Int)) ((hk (Sha.macT s key) info ((n + 31) / 32)).1.extract 0 n, true) := by
    intro s hs
    refine Ev.step (f := fun k => _) (fun k => by rw [atriumref04_Derive.j1]) ?_
    refine evBindc (rmacF s key (by omega) (by omega)) ?_
    exact refL (Sha.macT s key) info n (by rw [macT_size]; omega) h3 hn 256 0 (by omega) (by omega)
  unfold derT saltOf
  simp only [atriumref04_Derive.f]
  refine evIfNeg (by omega) ?_
  rw [decide_eq_false (by omega)]
  refine Ev.step (f := fun k => _) (fun k => by rw [atriumref04_Derive.j0]) ?_
  refine evIfNeg (by decide) ?_
  by_cases hz : salt.size = 0
  · refine evIfPos ((toList_nil_iff salt).2 hz) ?_
    refine evIfPos (by omega) ?_
    rw [z32_str, if_pos hz]
    exact main z32 (by decide)
  · refine evIfNeg (fun h => hz ((toList_nil_iff salt).1 h)) ?_
    rw [if_neg hz]
    exact main salt h2
theorem evDerNo (key salt info : ByteArray) (n : Int) (hn : n < 0 ∨ 8160 < n) : Ev (fun k => mac_Derive.f k key salt info n) (⟨#[]⟩, false) := by
  simp only [mac_Derive.f]
  by_cases h : n < 0
  · refine evIfPos h ?_
    refine Ev.step (f := fun k => _) (fun k => by rw [mac_Derive.j0]) ?_
    exact evIfPos rfl (Ev.now _)
  · refine evIfNeg h ?_
    rw [decide_eq_true (by omega)]
    refine Ev.step (f := fun k => _) (fun k => by rw [mac_Derive.j0]) ?_
    exact evIfPos rfl (Ev.now _)
theorem evRDerNo (key salt info : ByteArray) (n : Int) (hn : n < 0 ∨ 8160 < n) : Ev (fun k => atriumref04_Derive.f k key salt info n) (⟨#[]⟩, false) := by
  simp only [atriumref04_Derive.f]
  by_cases h : n < 0
  · refine evIfPos h ?_
    refine Ev.step (f := fun k => _) (fun k => by rw [atriumref04_Derive.j0]) ?_
    exact evIfPos rfl (Ev.now _)
  · refine evIfNeg h ?_
    rw [decide_eq_true (by omega)]
    refine Ev.step (f := fun k => _) (fun k => by rw [atriumref04_Derive.j0]) ?_
    exact evIfPos rfl (Ev.now _)
theorem hk_more (p info : ByteArray) (i : Nat) : ∀ d, (hk p info i).1.data.toList = (hk p info (i + d)).1.data.toList.take (32 * i)
  | 0 => by
    rw [Nat.add_zero, List.take_of_length_le]
    rw [Array.length_toList]
    exact Nat.le_of_eq (hk_size p info i)
  | d + 1 => by
    rw [← Nat.add_assoc, hk, ByteArray.data_append, Array.toList_append, List.take_append_of_le_length]
    · exact hk_more p info i d
    · rw [Array.length_toList]
      have : (hk p info (i + d)).1.data.size = 32 * (i + d) := hk_size p info (i + d)
      omega
theorem ext0 (s : ByteArray) (n : Nat) : (s.extract 0 n).data.toList = s.data.toList.take n := by
  rw [Lib.extract_data, List.drop_zero, Nat.sub_zero]
theorem der_less (key salt info : ByteArray) (n m : Nat) (h : m ≤ n) : derT key salt info m = (derT key salt info n).extract 0 m := by
  apply data_inj
  unfold derT
  rw [ext0, ext0, ext0, List.take_take, Nat.min_eq_left h]
  obtain ⟨d, hd⟩ : ∃ d, (n + 31) / 32 = (m + 31) / 32 + d := ⟨(n + 31) / 32 - (m + 31) / 32, by omega⟩
  rw [hd, hk_more _ _ _ d, List.take_take, Nat.min_eq_left (by omega)]
theorem derT_size (key salt info : ByteArray) (n : Nat) : (derT key salt info n).size = n := by
  unfold derT
  rw [ByteArray.size_extract, hk_size]
  omega
end Go.Proofs.Ytililaifppblhaa.Pure
