/- Plain laws and the walk of CredMints, and what the other laws of chapter 21 share with it. -/
import Derived.Test.YtehnpmkfgdmmmaaPKx4
import Derived.Test.YtehnpmkfgdmmmaaMcD
namespace Go.Proofs.Ytehnpmkfgdmmmaa.Pure
open Go Go.RowKit Go.Proofs.Ytehnpmkfgdmmmaa Go.Proofs.Ytehnpmkfgdmmmaa.PK Go.Proofs.YtehnpmkfgdmmmaaW.PrintWords Go.Proofs.YtehnpmkfgdmmmaaW.PrintLast
set_option linter.unusedVariables false
set_option linter.unusedSimpArgs false

theorem sumF (s : ByteArray) (h : s.size ≤ 1152921504606846976) : mac_Sum.f s = some (sumT s) := if_pos h
theorem rsumF (s : ByteArray) (h : s.size ≤ 140737488354900) : atriumref04_Sum.f s = some (sumT s) := if_pos h
theorem turnedL_size (K : ByteArray) (c : UInt8) (h : K.size ≤ 64) : (⟨(Sha.turnedL K.data.toList c).toArray⟩ : ByteArray).size = 64 := by
  show (Sha.turnedL K.data.toList c).toArray.size = 64
  rw [List.size_toArray]
  unfold Sha.turnedL
  rw [List.length_map, Sha.key64_len _ (by rw [Array.length_toList]; exact h)]
theorem mac_j0 (K text : ByteArray) (hK : K.size ≤ 64) (ht : text.size ≤ 1152921504606846000) (k : Nat) :
    mac_Mac.j0 (k + 1) K text = some (sumT (⟨(Sha.turnedL K.data.toList 92).toArray⟩ ++ sumT (⟨(Sha.turnedL K.data.toList 54).toArray⟩ ++ text))) := by
  have e1 : mac_turned.f K 92 = some ⟨(Sha.turnedL K.data.toList 92).toArray⟩ := if_pos ⟨hK, by omega, by omega⟩
  have e2 : mac_turned.f K 54 = some ⟨(Sha.turnedL K.data.toList 54).toArray⟩ := if_pos ⟨hK, by omega, by omega⟩
  have s1 := turnedL_size K 92 hK
  have s2 := turnedL_size K 54 hK
  rw [mac_Mac.j0, e1, e2]
  generalize (⟨(Sha.turnedL K.data.toList 92).toArray⟩ : ByteArray) = O at *
  generalize (⟨(Sha.turnedL K.data.toList 54).toArray⟩ : ByteArray) = I at *
  simp only [Option.bind_some]
  rw [if_pos (by omega), sumF _ (by rw [ByteArray.size_append]; omega)]
  simp only [Option.bind_some]
  rw [if_pos (by rw [sumT_size]; omega), sumF _ (by rw [ByteArray.size_append, sumT_size]; omega)]
  rfl
theorem macF (key text : ByteArray) (hk : key.size ≤ 1152921504606846976) (ht : text.size ≤ 1152921504606846000) (k : Nat) : mac_Mac.f (k + 1) key text = some (Sha.macT key text) := by
  unfold mac_Mac.f Sha.macT Sha.keyOf
  by_cases h : key.size ≤ 64
  · rw [if_neg (by omega), if_pos h, mac_j0 key text h ht]
  · rw [if_pos (by omega), if_neg h, sumF key hk]
    simp only [Option.bind_some]
    rw [mac_j0 _ text (by rw [sumT_size]; omega) ht]
theorem evMac (key text : ByteArray) (hk : key.size ≤ 1152921504606846976) (ht : text.size ≤ 1152921504606846000) : Ev (fun k => mac_Mac.f k key text) (Sha.macT key text) :=
  ⟨1, fun k hk' => by obtain ⟨m, rfl⟩ : ∃ m, k = m + 1 := ⟨k - 1, by omega⟩; exact macF key text hk ht m⟩
theorem rmacF (key text : ByteArray) (hk : key.size ≤ 140737488354900) (ht : text.size ≤ 140737488354800) : atriumref04_Mac.f key text = some (Sha.macT key text) := if_pos ⟨hk, ht⟩
theorem macT_size (key text : ByteArray) : (Sha.macT key text).size = 32 := sumT_size _

theorem drop_at (s : ByteArray) (i : Nat) (h : i < s.size) : s.data.toList.drop i = s[i] :: s.data.toList.drop (i + 1) := by
  rw [List.drop_eq_getElem_cons (by rw [Array.length_toList]; exact h)]; rfl
theorem drop_end (s : ByteArray) (i : Nat) (h : s.size ≤ i) : s.data.toList.drop i = [] := List.drop_eq_nil_of_le (by rw [Array.length_toList]; exact h)

def hexT (s : ByteArray) : ByteArray := ⟨(Sha.letB Sha.hexes (Sha.hexL s.data.toList)).toArray⟩
def b64T (s : ByteArray) : ByteArray := ⟨(Sha.letB Sha.letters (Sha.b64L s.data.toList)).toArray⟩
theorem hexT_data (s : ByteArray) : (hexT s).data.toList = Sha.letB Sha.hexes (Sha.hexL s.data.toList) := rfl
theorem b64T_data (s : ByteArray) : (b64T s).data.toList = Sha.letB Sha.letters (Sha.b64L s.data.toList) := rfl
theorem hexT_size (s : ByteArray) : (hexT s).size = 2 * s.size := by
  show (Sha.letB Sha.hexes (Sha.hexL s.data.toList)).toArray.size = _
  rw [List.size_toArray]
  unfold Sha.letB
  rw [List.length_map, Sha.hexL_len, Array.length_toList]; rfl
theorem b64T_size (s : ByteArray) : (b64T s).size = (4 * s.size + 2) / 3 := by
  show (Sha.letB Sha.letters (Sha.b64L s.data.toList)).toArray.size = _
  rw [List.size_toArray]
  unfold Sha.letB
  rw [List.length_map, Sha.b64L_len, Array.length_toList]; rfl
theorem macHex (s : ByteArray) (h : s.size ≤ 70368744177600) : mac_Hex.f s = some (hexT s) := by
  unfold mac_Hex.f
  have e : mac_groups.f s 4 Sha.hexes = some (hexT s) := by
    unfold mac_groups.f
    rw [if_pos ⟨⟨by omega, by rw [show (4 : Int).toNat = 4 from rfl, Sha.enc4, Sha.hexL_len, Array.length_toList]; show 2 * s.size ≤ _; omega⟩, .inl rfl, rfl⟩]
    rw [show (4 : Int).toNat = 4 from rfl, Sha.enc4]; rfl
  show (mac_groups.f s 4 Sha.hexes).bind _ = _
  rw [e]; rfl
theorem macB64 (s : ByteArray) (h : s.size ≤ 105553116266400) : mac_Base64.f s = some (b64T s) := by
  unfold mac_Base64.f
  have e : mac_groups.f s 6 Sha.letters = some (b64T s) := by
    unfold mac_groups.f
    rw [if_pos ⟨⟨by omega, by rw [show (6 : Int).toNat = 6 from rfl, Sha.enc6, Sha.b64L_len, Array.length_toList]; show (4 * s.size + 2) / 3 ≤ _; omega⟩, .inr rfl, rfl⟩]
    rw [show (6 : Int).toNat = 6 from rfl, Sha.enc6]; rfl
  show (mac_groups.f s 6 Sha.letters).bind _ = _
  rw [e]; rfl
theorem or8 (x y : UInt8) : Go.bits .or .u8 (x.toNat : Int) (y.toNat : Int) = ((x ||| y).toNat : Int) := by
  show IntKind.u8.wrap ((BitVec.ofInt 8 (x.toNat : Int) ||| BitVec.ofInt 8 (y.toNat : Int)).toNat : Int) = _
  rw [Sha.bv8, Sha.bv8]
  show ((x ||| y).toNat : Int) % 256 = _
  have := (x ||| y).toNat_lt
  omega
theorem or_zero (x y : UInt8) : x ||| y = 0 ↔ x = 0 ∧ y = 0 := by
  constructor
  · intro h
    have h' := congrArg UInt8.toNat h
    rw [UInt8.toNat_or] at h'
    have h2 : x.toNat ||| y.toNat = 0 := h'
    have hx : x.toNat ≤ x.toNat ||| y.toNat := Nat.left_le_or
    have hy : y.toNat ≤ x.toNat ||| y.toNat := Nat.right_le_or
    exact ⟨UInt8.toNat_inj.1 (by show x.toNat = 0; omega), UInt8.toNat_inj.1 (by show y.toNat = 0; omega)⟩
  · rintro ⟨rfl, rfl⟩; rfl
theorem xor_zero (x y : UInt8) : x ^^^ y = 0 ↔ x = y := by
  constructor
  · intro h
    have h2 : (x ^^^ y) ^^^ y = 0 ^^^ y := by rw [h]
    rw [UInt8.xor_assoc, UInt8.xor_self, UInt8.xor_zero, UInt8.zero_xor] at h2
    exact h2
  · rintro rfl
    exact UInt8.xor_self
/-- Equal's loop, from place i on. -/
theorem eqL (a b : ByteArray) (hab : a.size = b.size) (ha : a.size ≤ 140737488351232) :
    ∀ (d i : Nat) (p : UInt8), i + d = a.size → (p = 0 ↔ a.data.toList.take i = b.data.toList.take i) →
      Ev (fun k => mac_Equal.l0 k a b (p.toNat : Int) (a.size : Int) (i : Int)) (a.toList == b.toList)
  | 0, i, p, h, hp => by
    refine Ev.step (f := fun k => _) (fun k => by rw [mac_Equal.l0]) ?_
    refine evIfNeg (by omega) ?_
    have e : ((p.toNat : Int) == 0) = (a.toList == b.toList) := by
      rw [List.take_of_length_le (by rw [Array.length_toList]; show a.size ≤ i; omega), List.take_of_length_le (by rw [Array.length_toList]; show b.size ≤ i; omega)] at hp
      rw [Bool.eq_iff_iff, beq_iff_eq, beq_iff_eq, ByteArray.toList_eq, ByteArray.toList_eq, ← hp]
      constructor
      · intro h
        exact UInt8.toNat_inj.1 (by show p.toNat = 0; omega)
      · rintro rfl; rfl
    rw [e]
    exact Ev.now _
  | d + 1, i, p, h, hp => by
    have hi : i < a.size := by omega
    have hi2 : i < b.size := by omega
    obtain ⟨x, hx, tx, _⟩ := bt_nat' a i hi
    obtain ⟨y, hy, ty, _⟩ := bt_nat' b i hi2
    refine Ev.step (f := fun k => _) (fun k => by rw [mac_Equal.l0]) ?_
    refine evIfPos (by omega) ?_
    refine evIfPos (by omega) ?_
    refine evIfPos (by omega) ?_
    refine evIfPos (by omega) ?_
    rw [hx, hy, Sha.xor8, or8, wrap64_succ (by omega)]
    refine eqL a b hab ha d (i + 1) (p ||| (x ^^^ y)) (by omega) ?_
    rw [or_zero, xor_zero, hp, tx, ty]
    constructor
    · rintro ⟨h1, rfl⟩; rw [h1]
    · intro h1
      have h2 := List.append_inj h1 (by rw [List.length_take, List.length_take, Array.length_toList, Array.length_toList, show a.data.size = a.size from rfl, show b.data.size = b.size from rfl, hab])
      exact ⟨h2.1, by simpa using h2.2⟩
theorem evEq (a b : ByteArray) (ha : a.size ≤ 140737488351232) : Ev (fun k => mac_Equal.f k a b) (a.toList == b.toList) := by
  simp only [mac_Equal.f]
  by_cases h : a.size = b.size
  · refine evIfPos (by omega) ?_
    exact eqL a b h ha a.size 0 0 (by omega) (by simp)
  · refine evIfNeg (by omega) ?_
    have e : (a.toList == b.toList) = false := by
      rw [beq_eq_false_iff_ne]
      intro h2
      rw [toList_inj] at h2
      exact h (by rw [h2])
    rw [e]
    exact Ev.now _
theorem ten_iff (t : S24) : tenOk t = true ↔ t.f0.data.toList.all okC = true ∧ 1 ≤ t.f0.size ∧ t.f0.size ≤ 32 ∧ 1 ≤ t.f1.size ∧ t.f1.size ≤ 64 ∧ 0 ≤ t.f2 ∧ t.f2 ≤ 1048576 := by
  unfold tenOk nameOk
  simp [and_assoc]
def about : ByteArray := ⟨#[116, 101, 110, 97, 110, 116, 58]⟩
def sufT (n key : ByteArray) : ByteArray := hexT (Sha.macT key (about ++ n))
theorem sufT_size (n key : ByteArray) : (sufT n key).size = 64 := by unfold sufT; rw [hexT_size, macT_size]
def mintT (t : S24) : ByteArray × Int := if tenOk t = true then ((t.f0 ++ ⟨#[46]⟩) ++ sufT t.f0 t.f1, 0) else (⟨#[]⟩, 1)
theorem mintT_size (t : S24) : (mintT t).1.size ≤ 97 := by
  unfold mintT
  split
  · rename_i h
    have := (ten_iff t).1 h
    show ((t.f0 ++ ⟨#[46]⟩) ++ sufT t.f0 t.f1).size ≤ 97
    rw [ByteArray.size_append, ByteArray.size_append, sufT_size]
    show t.f0.size + 1 + 64 ≤ 97
    omega
  · exact Nat.zero_le _
theorem evMint (t : S24) (hn : t.f0.size ≤ 140737488355328) : Ev (fun k => cred_Mint.f k t.f0 t.f1 t.f2) (mintT t) := by
  simp only [cred_Mint.f]
  refine evBindc (right_f t (by omega)) ?_
  unfold mintT
  cases hok : tenOk t with
  | false => exact evIfNeg (by decide) (Ev.now _)
  | true =>
    obtain ⟨_, h1, h2, h3, h4, _⟩ := (ten_iff t).1 hok
    refine evIfPos rfl ?_
    refine evIfPos (by omega) ?_
    refine evIfPos (by omega) ?_
    refine Ev.bind (evMac t.f1 (about ++ t.f0) (by omega) (by rw [ByteArray.size_append]; show 7 + _ ≤ _; omega)) ?_
    refine evBindc (macHex _ (by rw [macT_size]; omega)) ?_
    refine evIfPos (by rw [ByteArray.size_append, hexT_size, macT_size]; show t.f0.size + 1 + _ ≤ _; omega) ?_
    exact Ev.now _
theorem mayL (n key : ByteArray) (q : Int) (hn : n.size ≤ 32) : ∀ (d i : Nat), i + d = n.size → Ev (fun k => atriumref21_may.l0 k (i : Int) n key q) ((n.data.toList.drop i).all okC)
  | 0, i, h => by
    refine Ev.step (f := fun k => _) (fun k => by rw [atriumref21_may.l0]) ?_
    refine evIfNeg (by omega) ?_
    rw [drop_end n i (by omega)]
    exact Ev.now _
  | d + 1, i, h => by
    have hi : i < n.size := by omega
    refine Ev.step (f := fun k => _) (fun k => by rw [atriumref21_may.l0]) ?_
    refine evIfPos (by omega) ?_
    refine evIfPos (by omega) ?_
    rw [bt_nat n i hi, drop_at n i hi, List.all_cons, wrap64_succ (by omega)]
    have ih := mayL n key q hn d (i + 1) (by omega)
    have hok : okC n[i] = ((97 ≤ n[i].toNat && n[i].toNat ≤ 122) || (48 ≤ n[i].toNat && n[i].toNat ≤ 57) || n[i].toNat == 45) := rfl
    have hlt := n[i].toNat_lt
    generalize n[i].toNat = c at *
    generalize okC n[i] = b at *
    generalize (List.drop (i + 1) n.data.toList).all okC = r at *
    cases b with
    | true =>
      rw [Bool.true_and]
      have hc : (97 ≤ c ∧ c ≤ 122) ∨ (48 ≤ c ∧ c ≤ 57) ∨ c = 45 := by
        have := hok.symm
        simp at this
        omega
      rcases hc with hc | hc | hc
      · exact evIfPos (by omega) (evIfPos (by omega) ih)
      · exact evIfNeg (by omega) (evIfPos (by omega) (evIfPos (by omega) ih))
      · exact evIfNeg (by omega) (evIfNeg (by omega) (evIfPos (by omega) ih))
    | false =>
      rw [Bool.false_and]
      have hc : ¬ (97 ≤ c ∧ c ≤ 122) ∧ ¬ (48 ≤ c ∧ c ≤ 57) ∧ c ≠ 45 := by
        have := hok.symm
        simp at this
        omega
      by_cases h1 : 97 ≤ c
      · exact evIfPos (by omega) (evIfNeg (by omega) (evIfPos (by omega) (evIfNeg (by omega) (evIfNeg (by omega) (Ev.now _)))))
      · by_cases h2 : 48 ≤ c
        · exact evIfNeg (by omega) (evIfPos (by omega) (evIfNeg (by omega) (evIfNeg (by omega) (Ev.now _))))
        · exact evIfNeg (by omega) (evIfNeg (by omega) (evIfNeg (by omega) (Ev.now _)))
theorem may_bad (n key : ByteArray) (q : Int) : Ev (fun k => atriumref21_may.j0 k true n key q) false :=
  Ev.step (f := fun k => _) (fun k => by rw [atriumref21_may.j0]) (evIfPos rfl (Ev.now _))
theorem evMay (t : S24) : Ev (fun k => atriumref21_may.f k t.f0 t.f1 t.f2) (tenOk t) := by
  simp only [atriumref21_may.f]
  cases hok : tenOk t with
  | true =>
    obtain ⟨h0, h1, h2, h3, h4, h5, h6⟩ := (ten_iff t).1 hok
    refine evIfNeg (by omega) (evIfNeg (by omega) (evIfNeg (by omega) (evIfNeg (by omega) (evIfNeg (by omega) ?_))))
    rw [show decide (t.f2 > 1048576) = false by simp; omega]
    refine Ev.step (f := fun k => _) (fun k => by rw [atriumref21_may.j0]) (evIfNeg (by decide) ?_)
    have := mayL t.f0 t.f1 t.f2 h2 t.f0.size 0 (by omega)
    rw [List.drop_zero, h0] at this
    exact this
  | false =>
    have hno : ¬ _ := fun h => absurd ((ten_iff t).2 h) (by rw [hok]; decide)
    by_cases h1 : t.f0.size < 1
    · exact evIfPos (by omega) (may_bad _ _ _)
    refine evIfNeg (by omega) ?_
    by_cases h2 : t.f0.size > 32
    · exact evIfPos (by omega) (may_bad _ _ _)
    refine evIfNeg (by omega) ?_
    by_cases h3 : t.f1.size < 1
    · exact evIfPos (by omega) (may_bad _ _ _)
    refine evIfNeg (by omega) ?_
    by_cases h4 : t.f1.size > 64
    · exact evIfPos (by omega) (may_bad _ _ _)
    refine evIfNeg (by omega) ?_
    by_cases h5 : t.f2 < 0
    · exact evIfPos h5 (may_bad _ _ _)
    refine evIfNeg h5 ?_
    by_cases h6 : t.f2 > 1048576
    · rw [show decide (t.f2 > 1048576) = true by simpa using h6]
      exact may_bad _ _ _
    rw [show decide (t.f2 > 1048576) = false by simpa using h6]
    refine Ev.step (f := fun k => _) (fun k => by rw [atriumref21_may.j0]) (evIfNeg (by decide) ?_)
    have := mayL t.f0 t.f1 t.f2 (by omega) t.f0.size 0 (by omega)
    rw [List.drop_zero] at this
    have e : t.f0.data.toList.all okC = false := by
      rw [Bool.eq_false_iff]
      exact fun h0 => hno ⟨h0, by omega, by omega, by omega, by omega, by omega, by omega⟩
    rw [e] at this
    exact this
theorem rhexF (s : ByteArray) (h : s.size ≤ 70368744177600) : atriumref04_Hex.f s = some (hexT s) := if_pos h
theorem evRMint (t : S24) : Ev (fun k => atriumref21_Mint.f k t.f0 t.f1 t.f2) (mintT t) := by
  simp only [atriumref21_Mint.f]
  refine Ev.bind (evMay t) ?_
  unfold mintT
  cases hok : tenOk t with
  | false => exact evIfNeg (by decide) (Ev.now _)
  | true =>
    obtain ⟨_, h1, h2, h3, h4, _⟩ := (ten_iff t).1 hok
    refine evIfPos rfl ?_
    refine evIfPos (by omega) ?_
    refine evIfPos (by omega) ?_
    refine evBindc (rmacF t.f1 (about ++ t.f0) (by omega) (by rw [ByteArray.size_append]; show 7 + _ ≤ _; omega)) ?_
    refine evBindc (rhexF _ (by rw [macT_size]; omega)) ?_
    refine evIfPos (by rw [ByteArray.size_append, hexT_size, macT_size]; show t.f0.size + 1 + _ ≤ _; omega) ?_
    exact Ev.now _

/-! ### Check -/
theorem rd_get (l : List S24) (k : Nat) (h : k < l.length) : rd_T24 l (k : Int) = l[k] := by
  unfold rd_T24
  rw [Int.toNat_natCast, List.getD_eq_getElem?_getD, List.getElem?_eq_getElem h]; rfl
theorem names_succ (l : List S24) (k : Nat) (h : k < l.length) : names (l.take (k + 1)) = names (l.take k) ++ [(rd_T24 l (k : Int)).f0.data.toList] := by
  unfold names
  rw [List.take_succ_eq_append_getElem h, List.map_append, rd_get l k h]
  rfl
theorem names_more (l : List S24) (x : List UInt8) (j : Nat) : ∀ d, (names (l.take j)).contains x = true → (names (l.take (j + d))).contains x = true := by
  intro d h
  unfold names at *
  rw [List.contains_iff_mem] at *
  rw [List.mem_map] at *
  obtain ⟨t, ht, rfl⟩ := h
  refine ⟨t, ?_, rfl⟩
  rw [List.take_add]
  exact List.mem_append_left _ ht
theorem checkIn (l : List S24) (i : Nat) (hi : i < l.length) (hl : l.length ≤ 16) (R : Int)
    (hc : (names (l.take i)).contains (rd_T24 l (i : Int)).f0.data.toList = false → Ev (fun k => atriumref21_Check.l0 k l ((i + 1 : Nat) : Int)) R)
    (hs : (names (l.take i)).contains (rd_T24 l (i : Int)).f0.data.toList = true → R = 1) :
    ∀ (e j : Nat), j + e = i → (names (l.take j)).contains (rd_T24 l (i : Int)).f0.data.toList = false → Ev (fun k => atriumref21_Check.l1 k l (i : Int) (j : Int)) R
  | 0, j, h, hj => by
    obtain rfl : j = i := by omega
    refine Ev.step (f := fun k => _) (fun k => by rw [atriumref21_Check.l1]) ?_
    refine evIfNeg (by omega) ?_
    rw [wrap64_succ (by omega)]
    exact hc hj
  | e + 1, j, h, hj => by
    refine Ev.step (f := fun k => _) (fun k => by rw [atriumref21_Check.l1]) ?_
    refine evIfPos (by omega) (evIfPos (by omega) (evIfPos (by omega) (evIfPos (by omega) (evIfPos (by omega) ?_))))
    have hn := names_succ l j (by omega)
    by_cases hq : (rd_T24 l (j : Int)).f0 = (rd_T24 l (i : Int)).f0
    · refine evIfPos (by rw [hq]) ?_
      have h1 : (names (l.take (j + 1))).contains (rd_T24 l (i : Int)).f0.data.toList = true := by
        rw [hn, List.contains_iff_mem, hq]
        simp
      have h2 := names_more l _ (j + 1) (i - (j + 1)) h1
      rw [show j + 1 + (i - (j + 1)) = i by omega] at h2
      rw [hs h2]
      exact Ev.now _
    · refine evIfNeg (fun h2 => hq (toList_inj.1 h2)) ?_
      rw [wrap64_succ (by omega)]
      refine checkIn l i hi hl R hc hs e (j + 1) (by omega) ?_
      rw [hn, Bool.eq_false_iff]
      intro h2
      rw [List.contains_iff_mem, List.mem_append] at h2
      rcases h2 with h2 | h2
      · rw [← List.contains_iff_mem, hj] at h2; cases h2
      · exact hq (data_inj (List.mem_singleton.1 h2).symm)
theorem checkL (l : List S24) (hl : l.length ≤ 16) : ∀ (d i : Nat), i + d = l.length → goodTo l i = true → Ev (fun k => atriumref21_Check.l0 k l (i : Int)) (if goodTo l l.length = true then 0 else 1)
  | 0, i, h, hg => by
    refine Ev.step (f := fun k => _) (fun k => by rw [atriumref21_Check.l0]) ?_
    refine evIfNeg (by omega) ?_
    rw [show l.length = i by omega, if_pos hg]
    exact Ev.now _
  | d + 1, i, h, hg => by
    have hgs : goodTo l (i + 1) = (goodTo l i && (tenOk (rd_T24 l (i : Int)) && !(names (l.take i)).contains (rd_T24 l (i : Int)).f0.data.toList)) := rfl
    rw [hg, Bool.true_and] at hgs
    have hno : goodTo l (i + 1) = false → goodTo l l.length = false := fun h2 => by
      have := goodTo_no l i h2 (l.length - (i + 1))
      rwa [show i + 1 + (l.length - (i + 1)) = l.length by omega] at this
    refine Ev.step (f := fun k => _) (fun k => by rw [atriumref21_Check.l0]) ?_
    refine evIfPos (by omega) (evIfPos (by omega) ?_)
    refine Ev.bind (evMay (rd_T24 l (i : Int))) ?_
    cases hok : tenOk (rd_T24 l (i : Int)) with
    | false =>
      refine evIfNeg (by decide) ?_
      rw [hok, Bool.false_and] at hgs
      rw [if_neg (by rw [hno hgs]; decide)]
      exact Ev.now _
    | true =>
      refine evIfPos rfl ?_
      rw [hok, Bool.true_and] at hgs
      refine checkIn l i (by omega) hl _ ?_ ?_ i 0 (by omega) rfl
      · intro hc
        exact checkL l hl d (i + 1) (by omega) (by rw [hgs, hc]; rfl)
      · intro hc
        rw [if_neg (by rw [hno (by rw [hgs, hc]; rfl)]; decide)]
theorem evCheck (l : List S24) : Ev (fun k => atriumref21_Check.f k l) (chk l) := by
  simp only [atriumref21_Check.f]
  have bad : Ev (fun k => atriumref21_Check.j0 k l true) 1 := Ev.step (f := fun k => _) (fun k => by rw [atriumref21_Check.j0]) (evIfPos rfl (Ev.now _))
  unfold chk
  by_cases h1 : l.length < 1
  · rw [if_neg (by omega)]
    exact evIfPos (by omega) bad
  refine evIfNeg (by omega) ?_
  by_cases h2 : l.length > 16
  · rw [if_neg (by omega), show decide ((l.length : Int) > 16) = true by simp; omega]
    exact bad
  rw [show decide ((l.length : Int) > 16) = false by simp; omega]
  refine Ev.step (f := fun k => _) (fun k => by rw [atriumref21_Check.j0]) (evIfNeg (by decide) ?_)
  have := checkL l (by omega) l.length 0 (by omega) rfl
  by_cases hg : goodTo l l.length = true
  · rw [if_pos ⟨by omega, by omega, hg⟩]
    rw [if_pos hg] at this
    exact this
  · rw [if_neg (fun h => hg h.2.2)]
    rw [if_neg hg] at this
    exact this
theorem checkF (l : List S24) (hl : ∀ t ∈ l, t.f0.size ≤ 140737488355328) : cred_Check.f l = some (chk l) := if_pos hl
theorem chk_two (l : List S24) : chk l = 0 ∨ chk l = 1 := by unfold chk; split <;> simp
theorem chk_len (l : List S24) (h : chk l = 0) : 1 ≤ l.length ∧ l.length ≤ 16 ∧ goodTo l l.length = true := by
  unfold chk at h
  split at h
  · assumption
  · cases h

/-! ### Verify -/
def verAt (l : List S24) (s : ByteArray) : Nat → Nat → Int × Int
  | 0, _ => (0, 210)
  | d + 1, i => if (mintT (rd_T24 l (i : Int))).1 = s then ((i : Int), 0) else verAt l s d (i + 1)
def verT (l : List S24) (s : ByteArray) : Int × Int := if chk l = 0 then verAt l s l.length 0 else (0, chk l)
theorem rd_mem (l : List S24) (k : Nat) (h : k < l.length) : rd_T24 l (k : Int) ∈ l := by
  rw [rd_get l k h]; exact List.getElem_mem _
theorem verL (l : List S24) (s : ByteArray) (hl : ∀ t ∈ l, t.f0.size ≤ 140737488355328) (h16 : l.length ≤ 16) : ∀ (d i : Nat), i + d = l.length → Ev (fun k => cred_Verify.l0 k s l (l.length : Int) (i : Int)) (verAt l s d i)
  | 0, i, h => by
    refine Ev.step (f := fun k => _) (fun k => by rw [cred_Verify.l0]) ?_
    exact evIfNeg (by omega) (Ev.now _)
  | d + 1, i, h => by
    refine Ev.step (f := fun k => _) (fun k => by rw [cred_Verify.l0]) ?_
    refine evIfPos (by omega) (evIfPos (by omega) (evIfPos (by omega) ?_))
    refine Ev.bind (evMint _ (hl _ (rd_mem l i (by omega)))) ?_
    refine Ev.bind (evEq _ s (Nat.le_trans (mintT_size _) (by omega))) ?_
    rw [verAt]
    by_cases hq : (mintT (rd_T24 l (i : Int))).1 = s
    · rw [if_pos hq]
      exact evIfPos (by rw [hq]; simp) (Ev.now _)
    · rw [if_neg hq]
      refine evIfNeg (fun h2 => hq (toList_inj.1 (by simpa using h2))) ?_
      rw [wrap64_succ (by omega)]
      exact verL l s hl h16 d (i + 1) (by omega)
theorem evVer (l : List S24) (s : ByteArray) (hl : ∀ t ∈ l, t.f0.size ≤ 140737488355328) : Ev (fun k => cred_Verify.f k l s) (verT l s) := by
  simp only [cred_Verify.f]
  refine evBindc (checkF l hl) ?_
  unfold verT
  by_cases h : chk l = 0
  · rw [if_pos h]
    refine evIfPos h ?_
    exact verL l s hl (chk_len l h).2.1 l.length 0 (by omega)
  · rw [if_neg h]
    exact evIfNeg h (Ev.now _)
def brr : List UInt8 := [98, 101, 97, 114, 101, 114]
theorem low_32 (c : UInt8) : lowB c = 32 ↔ c = 32 := by
  have h : ∀ c : UInt8, (lowB c == 32) = (c == 32) := by
    intro c
    have := List.all_eq_true.1 (show (List.range 256).all (fun n => (lowB (UInt8.ofNat n) == 32) == (UInt8.ofNat n == 32)) = true by decide +kernel) c.toNat (List.mem_range.2 c.toNat_lt)
    rw [UInt8.ofNat_toNat, beq_iff_eq] at this
    exact this
  have := h c
  constructor
  · intro e; rw [e] at this; simpa using this.symm
  · intro e; rw [e] at this; rw [e]; simpa using this
theorem ix_split : ∀ (l : List UInt8) (c : UInt8), (Lib.indexByte l c = -1 ∧ c ∉ l) ∨ ∃ pre post, l = pre ++ c :: post ∧ c ∉ pre ∧ Lib.indexByte l c = (pre.length : Int)
  | [], c => .inl ⟨rfl, by simp⟩
  | b :: l, c => by
    by_cases hb : b = c
    · subst hb
      exact .inr ⟨[], l, rfl, by simp, by unfold Lib.indexByte; rw [if_pos (by simp)]; rfl⟩
    · have hb2 : (b == c) = false := by simpa using hb
      rcases ix_split l c with ⟨h1, h2⟩ | ⟨pre, post, h1, h2, h3⟩
      · refine .inl ⟨?_, ?_⟩
        · unfold Lib.indexByte; rw [hb2, h1]; rfl
        · simp [h2, Ne.symm hb]
      · refine .inr ⟨b :: pre, post, by rw [h1]; rfl, by simp [h2, Ne.symm hb], ?_⟩
        unfold Lib.indexByte
        rw [hb2, h3]
        have : ((pre.length : Int) == -1) = false := by rw [beq_eq_false_iff_ne]; omega
        rw [this]
        simp
theorem split_one {pre q post r : List UInt8} {c : UInt8} (h : pre ++ c :: post = q ++ c :: r) (h1 : c ∉ pre) (h2 : c ∉ q) : pre = q := by
  have key : ∀ (p1 : List UInt8) (t : List UInt8), c ∉ p1 → Lib.indexByte (p1 ++ c :: t) c = (p1.length : Int) := by
    intro p1
    induction p1 with
    | nil => intro t _; unfold Lib.indexByte; rw [List.nil_append]; simp
    | cons b p1 ih =>
      intro t hn
      have hb : (b == c) = false := by rw [beq_eq_false_iff_ne]; intro e; exact hn (by simp [e])
      have := ih t (fun hm => hn (by simp [hm]))
      rw [List.cons_append]
      unfold Lib.indexByte
      rw [hb, this]
      have h3 : ((p1.length : Int) == -1) = false := by rw [beq_eq_false_iff_ne]; omega
      rw [h3]
      simp
  have e1 := key pre post h1
  have e2 := key q r h2
  rw [h, e2] at e1
  exact (List.append_inj h (by omega)).1
def bearT (s : ByteArray) : ByteArray × Int := if 8 ≤ s.size ∧ (s.data.toList.take 7).map lowB = brr ++ [32] then (s.extract 7 s.size, 0) else (⟨#[]⟩, 210)
theorem lowS_list (s : ByteArray) : (lowS s).toList = s.data.toList.map lowB := by rw [ByteArray.toList_eq]; rfl
theorem ext_list (s : ByteArray) (p q : Nat) : (s.extract p q).data.toList = (s.data.toList.drop p).take (q - p) := by
  rw [ByteArray.data_extract, Array.toList_extract, List.extract_eq_take_drop]
theorem len_data (s : ByteArray) : s.data.toList.length = s.size := Array.length_toList
theorem cut_bear (s : ByteArray) (hs : s.size ≤ 140737488355328) : cred_Bearer.f s = some (bearT s) := by
  unfold cred_Bearer.f strings_Cut.f
  have e : stringslite_Cut.f s (⟨#[32]⟩ : ByteArray) = some (cutB s 32) := if_pos ⟨rfl, by omega⟩
  rw [e]
  simp only [Option.bind_some]
  have hl := len_data s
  rcases ix_split s.data.toList 32 with ⟨h1, h2⟩ | ⟨pre, post, h1, h2, h3⟩
  · have ec : cutB s 32 = (s, ⟨#[]⟩, false) := by unfold cutB; rw [if_pos (by rw [h1]; decide)]
    rw [ec, if_neg (show ¬ ((s, (⟨#[]⟩ : ByteArray), false).2.2 = true) by simp)]
    unfold bearT
    rw [if_neg]
    rintro ⟨h8, hm⟩
    have h7 : s.data.toList.take 7 = (s.data.toList.take 6) ++ [s.data.toList[6]'(by omega)] := by
      rw [List.take_succ_eq_append_getElem (by omega)]
    rw [h7, List.map_append] at hm
    have := List.append_inj_right hm (by rw [List.length_map, List.length_take]; simp [brr]; omega)
    simp only [List.map_cons, List.map_nil, List.cons.injEq, and_true] at this
    rw [low_32] at this
    exact h2 (by rw [← this]; exact List.getElem_mem _)
  · have hpl : pre.length + 1 + post.length = s.size := by rw [← hl, h1]; simp; omega
    have ec : cutB s 32 = (s.extract 0 pre.length, s.extract (pre.length + 1) s.size, true) := by
      unfold cutB; rw [if_neg (by rw [h3]; omega), h3, Int.toNat_natCast]
    rw [ec, if_pos rfl]
    have el : text_Lower.f (s.extract 0 pre.length) = some (lowS (s.extract 0 pre.length)) := if_pos (by rw [ByteArray.size_extract]; omega)
    simp only [el, Option.bind_some]
    have ep : (lowS (s.extract 0 pre.length)).toList = pre.map lowB := by
      rw [lowS_list, ext_list, List.drop_zero, h1]
      simp
    rw [ep]
    have er : (s.extract (pre.length + 1) s.size).toList = post := by
      rw [ByteArray.toList_eq, ext_list]
      rw [h1, show pre ++ 32 :: post = (pre ++ [32]) ++ post by simp, List.drop_left' (by simp), List.take_of_length_le (by omega)]
    rw [er]
    unfold bearT
    by_cases hb : pre.map lowB = brr
    · have h6 : pre.length = 6 := by have := congrArg List.length hb; rw [List.length_map] at this; exact this
      rw [if_pos (show pre.map lowB = [98, 101, 97, 114, 101, 114] from hb)]
      have hm : (s.data.toList.take 7).map lowB = brr ++ [32] := by
        rw [h1, show pre ++ 32 :: post = (pre ++ [32]) ++ post by simp, List.take_left' (by simp; omega), List.map_append, hb]
        rfl
      by_cases hp : post = []
      · rw [if_pos hp, if_neg (by subst hp; simp at hpl; omega)]
      · rw [if_neg hp]
        have : 1 ≤ post.length := by cases post with
          | nil => exact absurd rfl hp
          | cons a b => simp
        rw [if_pos ⟨by omega, hm⟩, h6]
    · rw [if_neg (show ¬ pre.map lowB = [98, 101, 97, 114, 101, 114] from hb), if_neg]
      rintro ⟨h8, hm⟩
      have h7 : s.data.toList.take 7 = (s.data.toList.take 6) ++ [s.data.toList[6]'(by omega)] := by
        rw [List.take_succ_eq_append_getElem (by omega)]
      rw [h7, List.map_append] at hm
      have hi := List.append_inj hm (by rw [List.length_map, List.length_take]; simp [brr]; omega)
      have h32 := hi.2
      simp only [List.map_cons, List.map_nil, List.cons.injEq, and_true] at h32
      rw [low_32] at h32
      have hsp : s.data.toList = s.data.toList.take 6 ++ 32 :: s.data.toList.drop 7 := by
        conv => lhs; rw [← List.take_append_drop 7 s.data.toList, h7, h32]
        simp
      have hq : (32 : UInt8) ∉ s.data.toList.take 6 := by
        intro hm2
        have : lowB 32 ∈ (s.data.toList.take 6).map lowB := List.mem_map_of_mem hm2
        rw [hi.1] at this
        revert this
        decide
      have := split_one (h1.symm.trans hsp) h2 hq
      rw [this] at hb
      exact hb hi.1

/-! ### Who -/
def whoT (l : List S24) (vs : List ByteArray) : Int × Int :=
  if chk l = 0 then (if vs.length = 1 then (if (bearT (rdOf ByteArray.empty vs 0)).2 = 0 then verT l (bearT (rdOf ByteArray.empty vs 0)).1 else (0, (bearT (rdOf ByteArray.empty vs 0)).2)) else (0, 210)) else (0, chk l)
theorem rd0_size (vs : List ByteArray) (h : ∀ v ∈ vs, v.size ≤ 140737488355328) : (rdOf ByteArray.empty vs 0).size ≤ 140737488355328 := by
  cases vs with
  | nil => exact Nat.zero_le _
  | cons a vs => exact h a (by simp)
theorem evWho (l : List S24) (vs : List ByteArray) (hl : ∀ t ∈ l, t.f0.size ≤ 140737488355328) (hv : ∀ v ∈ vs, v.size ≤ 140737488355328) : Ev (fun k => cred_Who.f k l vs) (whoT l vs) := by
  simp only [cred_Who.f]
  refine evBindc (checkF l hl) ?_
  unfold whoT
  by_cases h : chk l = 0
  · rw [if_pos h]
    refine evIfPos h ?_
    by_cases h1 : vs.length = 1
    · rw [if_pos h1]
      refine evIfPos (by omega) (evIfPos (by omega) ?_)
      refine evBindc (cut_bear _ (rd0_size vs hv)) ?_
      by_cases hb : (bearT (rdOf ByteArray.empty vs 0)).2 = 0
      · rw [if_pos hb]
        refine evIfPos hb ?_
        exact Ev.bind (evVer l _ hl) (Ev.now _)
      · rw [if_neg hb]
        exact evIfNeg hb (Ev.now _)
    · rw [if_neg h1]
      exact evIfNeg (by omega) (Ev.now _)
  · rw [if_neg h]
    exact evIfNeg h (Ev.now _)
/-! ### Token -/
theorem tokT_b64 (n d : Int) : tokT n d = b64T (tokB n d) := rfl
theorem tokT_size (n d : Int) : (tokT n d).size = 22 := by rw [tokT_b64, b64T_size, tokB_size]
theorem tokF (n d : Int) (h0 : 0 ≤ n) (h1 : n ≤ 18446744073709551615) (h2 : 0 ≤ d) (h3 : d ≤ 18446744073709551615) : cred_Token.f n d = some (tokT n d) := if_pos ⟨h0, h1, h2, h3⟩

/-! ### lives -/
def acme : S24 := ⟨⟨#[97, 99, 109, 101]⟩, ⟨#[107]⟩, 3⟩
theorem acme_ok : tenOk acme = true := by decide
theorem acme_chk : chk [acme] = 0 := by
  unfold chk
  rw [if_pos]
  refine ⟨by decide, by decide, ?_⟩
  have : rd_T24 [acme] (0 : Int) = acme := rfl
  show (goodTo [acme] 0 && (tenOk (rd_T24 [acme] ((0 : Nat) : Int)) && !(names ([acme].take 0)).contains _)) = true
  rw [show rd_T24 [acme] ((0 : Nat) : Int) = acme from rfl, acme_ok]
  rfl
theorem evLives : Ev (fun k => atriumlaw21_lives.f k) true := by
  simp only [atriumlaw21_lives.f]
  refine evBindc (a := [acme]) rfl ?_
  refine evIfPos (by decide) ?_
  have hm : mintT acme = ((acme.f0 ++ ⟨#[46]⟩) ++ sufT acme.f0 acme.f1, 0) := by unfold mintT; rw [if_pos acme_ok]
  have hz : (mintT acme).1.size = 69 := by
    rw [hm]
    show ((acme.f0 ++ ⟨#[46]⟩) ++ sufT acme.f0 acme.f1).size = 69
    rw [ByteArray.size_append, ByteArray.size_append, sufT_size]; rfl
  have hl : ∀ t ∈ [acme], t.f0.size ≤ 140737488355328 := by
    intro t ht
    rw [List.mem_singleton] at ht
    subst ht
    decide
  refine Ev.bind (evMint acme (by decide)) ?_
  refine evIfPos (by rw [hz]; decide) ?_
  have hv0 : ((⟨#[66, 101, 97, 114, 101, 114, 32]⟩ : ByteArray) ++ (mintT acme).1).size = 76 := by rw [ByteArray.size_append, hz]; rfl
  have hbt : bearT ((⟨#[66, 101, 97, 114, 101, 114, 32]⟩ : ByteArray) ++ (mintT acme).1) = ((mintT acme).1, 0) := by
    have hd : ((⟨#[66, 101, 97, 114, 101, 114, 32]⟩ : ByteArray) ++ (mintT acme).1).data.toList = [66, 101, 97, 114, 101, 114, 32] ++ (mintT acme).1.data.toList := by simp
    unfold bearT
    rw [if_pos ⟨by omega, by rw [hd, List.take_left' (by rfl)]; decide⟩]
    refine Prod.ext (data_inj ?_) rfl
    show (ByteArray.extract _ 7 _).data.toList = _
    rw [ext_list, hd, List.drop_left' (by rfl), List.take_of_length_le (by rw [len_data]; omega)]
  have hver : verT [acme] (mintT acme).1 = (0, 0) := by
    unfold verT
    rw [if_pos acme_chk]
    show verAt [acme] _ (0 + 1) 0 = _
    rw [verAt, if_pos (by rfl)]
    rfl
  have hw1 : whoT [acme] [(⟨#[66, 101, 97, 114, 101, 114, 32]⟩ : ByteArray) ++ (mintT acme).1] = (0, 0) := by
    unfold whoT
    rw [if_pos acme_chk, if_pos (by rfl)]
    show (if (bearT ((⟨#[66, 101, 97, 114, 101, 114, 32]⟩ : ByteArray) ++ (mintT acme).1)).2 = 0 then verT [acme] (bearT ((⟨#[66, 101, 97, 114, 101, 114, 32]⟩ : ByteArray) ++ (mintT acme).1)).1 else _) = _
    rw [hbt, if_pos rfl, hver]
  have hw2 : whoT [acme] [] = (0, 210) := by
    unfold whoT
    rw [if_pos acme_chk, if_neg (by decide)]
  refine Ev.bind (evWho [acme] _ hl (by intro v hv; rw [List.mem_singleton] at hv; subst hv; omega)) ?_
  refine Ev.bind (evWho [acme] [] hl (by intro v hv; cases hv)) ?_
  rw [hw1, hw2]
  refine evIfPos (by rw [hm]) ?_
  refine evIfPos (by rw [hz]; rfl) ?_
  refine evIfPos rfl (evIfPos rfl (evIfPos rfl ?_))
  refine evBindc (tokF 0 0 (by decide) (by decide) (by decide) (by decide)) ?_
  rw [show (((tokT 0 0).size : Int) == 22) = true by rw [tokT_size]; rfl]
  exact Ev.now _
theorem CredMints (l : List S24) (t : S24) (hl : ∀ t ∈ l, t.f0.size ≤ 140737488355328) (ht : t.f0.size ≤ 140737488355328) : ∃ k, atriumlaw21_CredMints.f k l t.f0 t.f1 t.f2 = some true := by
  apply Ev.rounds
  simp only [atriumlaw21_CredMints.f]
  refine Ev.bind (evMint t ht) ?_
  refine Ev.bind (evRMint t) ?_
  refine Ev.bind evLives ?_
  refine evIfPos rfl (evIfPos rfl (evIfPos rfl ?_))
  refine evBindc (checkF l hl) ?_
  refine Ev.bind (evCheck l) ?_
  rw [show (chk l == chk l) = true by simp]
  exact Ev.now _
theorem mints_walk (A : Option Addr) (c : Nat) (l : List S24) (cs : Array Value) (y : S24) (W : World) (hC : Kd.C k24 W A l.length l) (hc : l.length ≤ c)
    (ho : l.length * 40 ≤ 140737488351232 ∧ ∀ x ∈ l, (x.f0.size ≤ 140737488351232) ∧ (x.f1.size ≤ 140737488351232) ∧ ((Lit.int .i64 x.f2).wf = true)) (hK : k24.K W y cs.toList) (hy : (y.f0.size ≤ 140737488351232) ∧ (y.f1.size ≤ 140737488351232) ∧ ((Lit.int .i64 y.f2).wf = true)) :
    Calls Try.prog 3 #[.slice A l.length c, .agg cs] W fun e w' => e = .returned (.bool true) ∧ Below W.heap.size W w' := by
  have e := k24_open hK
  obtain ⟨cl⟩ := cs
  simp only at e
  subst e
  obtain ⟨k, hk⟩ := CredMints l y (fun t ht => Nat.le_trans (ho.2 t ht).1 (by omega)) (Nat.le_trans hy.1 (by omega))
  exact atriumlaw21_CredMints.calls k A c l y.f0 y.f1 y.f2 true W hC hc hk
end Go.Proofs.Ytehnpmkfgdmmmaa.Pure
