/- Proves that a body that is framed is found again, whatever stands behind. Method: the frame is one list of bytes; Unframe's plain function is asked at it. -/
import Derived.Test.YtjlohahknngmmaaPureCodecUnframes
namespace Go.Proofs.Ytjlohahknngmmaa.PureD
set_option linter.unusedVariables false
open Go Go.RowKit Go.Proofs.Ytjlohahknngmmaa Go.Proofs.Ytjlohahknngmmaa.PD Go.Proofs.Ytjlohahknngmmaa.PureQ Go.Proofs.YtjlohahknngmmaaW.PrintWords Go.Proofs.YtjlohahknngmmaaW.PrintLast

/-! ### Numbers as bytes -/
theorem nb_bytes (n : Int) (k : Nat) : IsBytes (nb n k) := by
  induction k generalizing n with
  | zero => intro c hc; cases hc
  | succ k ih =>
    intro c hc
    simp only [nb, List.mem_append, List.mem_singleton] at hc
    rcases hc with hc | rfl
    · exact ih _ c hc
    · omega
theorem be_snoc (l : List Int) (c : Int) : beN (l ++ [c]) = beN l * 256 + c := by simp [beN]
theorem be_nb (k : Nat) : ∀ n : Int, 0 ≤ n → n < 256 ^ k → beN (nb n k) = n := by
  induction k with
  | zero => intro n h0 h1; simp [nb, beN] at *; omega
  | succ k ih =>
    intro n h0 h1
    rw [Int.pow_succ] at h1
    rw [nb, be_snoc, ih (n / 256) (by omega) (by omega)]
    omega
theorem bytes_back (l : List Int) (h : IsBytes l) : bytesOf (strOfNums l) = l := by
  rw [bytesOf, strOfNums_data, List.map_map]
  conv => rhs; rw [← List.map_id l]
  apply List.map_congr_left
  intro c hc
  have := h c hc
  simp only [Function.comp_def, id]
  obtain ⟨n, rfl⟩ := Int.eq_ofNat_of_zero_le this.1
  simp
  omega
theorem str_back (s : ByteArray) : strOfNums (bytesOf s) = s := by
  apply data_inj
  rw [strOfNums_data, bytesOf, List.map_map]
  conv => rhs; rw [← List.map_id s.data.toList]
  apply List.map_congr_left
  intro c hc
  simp
theorem str_append (a b : List Int) : strOfNums (a ++ b) = strOfNums a ++ strOfNums b := by
  apply data_inj
  simp [strOfNums_data]

theorem number_loop (x : Int) (hx : 0 ≤ x) (z : Nat) (hz : z ≤ 8) (j : Nat) : j ≤ z → Ev (fun k => atriumref02_Number.l0 k x (nb (x / 256 ^ j) (z - j)) ((j : Int) - 1)) (strOfNums (nb x z)) := by
  induction j with
  | zero =>
    intro _
    refine Ev.step (fun k => by simp only [atriumref02_Number.l0]; exact rfl) (evIfNeg (by omega) ?_)
    simp only [Int.pow_zero, Int.ediv_one, Nat.sub_zero]
    exact Ev.now _
  | succ j ih =>
    intro hj
    have h1 := ih (by omega)
    have hl := nb_length (x / 256 ^ (j + 1)) (z - (j + 1))
    have e1 : ((j + 1 : Nat) : Int) - 1 = (j : Int) := by omega
    have e2 : wrap64 (8 * (j : Int)) = 8 * (j : Int) := wrap64_id (by omega) (by omega)
    have e3 : wrap64 ((j : Int) - 1) = (j : Int) - 1 := wrap64_id (by omega) (by omega)
    rw [e1]
    refine Ev.step (fun k => by simp only [atriumref02_Number.l0]; exact rfl) (evIfPos (by omega) (evIfPos (by omega) (evIfPos (by omega) ?_)))
    have e4 : (shr .u64 x (8 * (j : Int))) % 256 = x / 256 ^ j % 256 := by
      have hp : (2 : Int) ^ (min (8 * (j : Int)).toNat 64) = 256 ^ j := by
        have : j = 0 ∨ j = 1 ∨ j = 2 ∨ j = 3 ∨ j = 4 ∨ j = 5 ∨ j = 6 ∨ j = 7 := by omega
        rcases this with rfl | rfl | rfl | rfl | rfl | rfl | rfl | rfl <;> decide
      show x / 2 ^ (min (8 * (j : Int)).toNat 64) % 256 = _
      rw [hp]
    have e5 : nb (x / 256 ^ j) (z - j) = nb (x / 256 ^ (j + 1)) (z - (j + 1)) ++ [x / 256 ^ j % 256] := by
      rw [show z - j = z - (j + 1) + 1 by omega, nb, Int.pow_succ, Int.ediv_ediv_of_nonneg (Int.pow_nonneg (by decide))]
    rw [e2, e3, e4, ← e5]
    exact h1
theorem number_ev (x : Int) (hx : 0 ≤ x) (z : Nat) (hz : z ≤ 8) : Ev (fun k => atriumref02_Number.f k x (z : Int)) (strOfNums (nb x z)) := by
  have h := number_loop x hx z hz z (Nat.le_refl _)
  rw [Nat.sub_self, nb] at h
  have e : wrap64 ((z : Int) - 1) = (z : Int) - 1 := wrap64_id (by omega) (by omega)
  refine Ev.congr (fun k => ?_) h
  unfold atriumref02_Number.f
  rw [e]

/-! ### The frame -/
theorem ext_mid (t : ByteArray) (X Y Z : List UInt8) (p q : Nat) (h : t.data.toList = X ++ Y ++ Z) (hp : X.length = p) (hq : p + Y.length = q) : (t.extract p q).data.toList = Y := by
  rw [ByteArray.data_extract, Array.toList_extract, List.extract_eq_take_drop, h, List.append_assoc, List.drop_left' hp, List.take_left' (by omega)]

def u8s (l : List Int) : List UInt8 := l.map fun n => UInt8.ofNat n.toNat
theorem u8s_str (l : List Int) : (strOfNums l).data.toList = u8s l := rfl
theorem u8s_bytes (s : ByteArray) : u8s (bytesOf s) = s.data.toList := by rw [← u8s_str, str_back]
theorem u8s_append (a b : List Int) : u8s (a ++ b) = u8s a ++ u8s b := by simp [u8s]
theorem u8s_length (a : List Int) : (u8s a).length = a.length := by simp [u8s]
theorem bytesOf_u8s (s : ByteArray) (l : List Int) (h : s.data.toList = u8s l) (hb : IsBytes l) : bytesOf s = l := by
  have : s = strOfNums l := data_inj (by rw [h, u8s_str])
  rw [this, bytes_back l hb]

theorem head_bytes (kind : Int) (body : ByteArray) : IsBytes (frameHead kind body) := by
  intro c hc
  simp only [frameHead, List.mem_append] at hc
  rcases hc with (((hc | hc) | hc) | hc) | hc
  · have := List.mem_cons.1 hc
    rcases this with rfl | h
    · omega
    · rw [List.mem_singleton.1 h]; omega
  · exact nb_bytes _ _ c hc
  · exact nb_bytes _ _ c hc
  · exact nb_bytes _ _ c hc
  · exact bytesOf_are _ c hc

theorem unf_frame (kind : Int) (h0 : 0 ≤ kind) (h1 : kind ≤ 255) (body behind : ByteArray) (hs : body.size ≤ 1048576) (s : ByteArray)
    (hS : s = strOfNums (frameHead kind body ++ nb (crcOf (strOfNums (frameHead kind body)).data.toList) 4)) : unf (s ++ behind) = (kind, body, (s.size : Int), 0) := by
  have hl : s.data.toList = u8s (frameHead kind body) ++ u8s (nb (crcOf (strOfNums (frameHead kind body)).data.toList) 4) := by rw [hS, u8s_str, u8s_append]
  have hcr := crc_range (strOfNums (frameHead kind body)).data.toList
  generalize hc : crcOf (strOfNums (frameHead kind body)).data.toList = cr at *
  have hT : (s ++ behind).data.toList = u8s (frameHead kind body) ++ u8s (nb cr 4) ++ behind.data.toList := by simp only [ByteArray.data_append, Array.toList_append, hl]
  have hH : u8s (frameHead kind body) = [68, 70] ++ u8s (nb kind 1) ++ u8s (nb 0 1) ++ u8s (nb (body.size : Int) 4) ++ body.data.toList := by
    simp only [frameHead, u8s_append, u8s_bytes]; rfl
  have hlen := frameHead_length kind body
  have hsz : s.size = 12 + body.size := by
    rw [hS, strOfNums_size, List.length_append, hlen, nb_length]; omega
  have hbl : body.data.toList.length = body.size := Array.length_toList
  have htz : (s ++ behind).size = 12 + body.size + behind.size := by rw [ByteArray.size_append, hsz]
  generalize s ++ behind = t at *
  have e1 : (t.extract 0 2).data.toList = [68, 70] := ext_mid t [] [68, 70] _ 0 2 (by rw [hT, hH]; simp only [List.append_assoc, List.nil_append]; rfl) rfl rfl
  have e2 : bytesOf (t.extract 2 (2 + 1)) = nb kind 1 := bytesOf_u8s _ _ (ext_mid t [68, 70] (u8s (nb kind 1)) _ 2 (2 + 1) (by rw [hT, hH]; simp only [List.append_assoc]; rfl) rfl (by rw [u8s_length, nb_length])) (nb_bytes _ _)
  have e3 : bytesOf (t.extract 3 (3 + 1)) = nb 0 1 := bytesOf_u8s _ _ (ext_mid t ([68, 70] ++ u8s (nb kind 1)) (u8s (nb 0 1)) _ 3 (3 + 1) (by rw [hT, hH]; simp only [List.append_assoc]; rfl) (by rw [List.length_append, u8s_length, nb_length]; rfl) (by rw [u8s_length, nb_length])) (nb_bytes _ _)
  have e4 : bytesOf (t.extract 4 8) = nb (body.size : Int) 4 := bytesOf_u8s _ _ (ext_mid t ([68, 70] ++ u8s (nb kind 1) ++ u8s (nb 0 1)) (u8s (nb (body.size : Int) 4)) _ 4 8 (by rw [hT, hH]; simp only [List.append_assoc]; rfl) (by rw [List.length_append, List.length_append, u8s_length, nb_length, u8s_length, nb_length]; rfl) (by rw [u8s_length, nb_length])) (nb_bytes _ _)
  have e5 : t.extract 8 (8 + body.size) = body := data_inj (ext_mid t ([68, 70] ++ u8s (nb kind 1) ++ u8s (nb 0 1) ++ u8s (nb (body.size : Int) 4)) body.data.toList _ 8 (8 + body.size) (by rw [hT, hH]; simp only [List.append_assoc]; rfl) (by simp only [List.length_append, u8s_length, nb_length]; rfl) (by rw [hbl]))
  have e6 : (t.extract 0 (8 + body.size)).data.toList = (strOfNums (frameHead kind body)).data.toList := ext_mid t [] (u8s (frameHead kind body)) _ 0 (8 + body.size) (by rw [hT]; simp only [List.append_assoc, List.nil_append]; rfl) rfl (by rw [u8s_length, hlen]; omega)
  have e7 : bytesOf (t.extract (8 + body.size) (12 + body.size)) = nb cr 4 := bytesOf_u8s _ _ (ext_mid t (u8s (frameHead kind body)) (u8s (nb cr 4)) _ (8 + body.size) (12 + body.size) (by rw [hT]) (by rw [u8s_length, hlen]) (by rw [u8s_length, nb_length]; omega)) (nb_bytes _ _)
  have k2 : bt t 2 = kind := by
    have := one_byte t 2 (by omega)
    rw [e2] at this
    simp only [nb, List.nil_append, List.cons.injEq, and_true] at this
    have h2 : bt t ((2 : Nat) : Int) = bt t 2 := rfl
    omega
  have k3 : bt t 3 = 0 := by
    have := one_byte t 3 (by omega)
    rw [e3] at this
    simp only [nb, List.nil_append, List.cons.injEq, and_true] at this
    have h2 : bt t ((3 : Nat) : Int) = bt t 3 := rfl
    omega
  have k4 : beN (bytesOf (t.extract 4 8)) = (body.size : Int) := by rw [e4, be_nb 4 _ (by omega) (by omega)]
  have k7 : beN (bytesOf (t.extract (8 + body.size) (12 + body.size))) = cr := by rw [e7, be_nb 4 _ hcr.1 (by have := hcr.2; omega)]
  unfold unf
  rw [if_neg (by omega), if_pos ⟨by rw [ByteArray.toList_eq, e1], k3, by rw [k4]; omega⟩, k4, Int.toNat_natCast]
  unfold unfR
  rw [if_neg (by omega), if_pos (by rw [k7, e6, hc]), k2, e5, hsz]

theorem ref_frame (kind : Int) (h0 : 0 ≤ kind) (h1 : kind ≤ 255) (body : ByteArray) : Ev (fun k => atriumref02_Frame.f k kind body) (frameRes kind body) := by
  unfold frameRes
  by_cases hb : body.size > 1048576
  · rw [if_pos hb]
    exact evIfPos (by omega) (Ev.now _)
  · rw [if_neg hb]
    have hh : (((⟨#[68, 70]⟩ : ByteArray) ++ strOfNums [kind, 0]) ++ strOfNums (nb (body.size : Int) 4)) ++ body = strOfNums (frameHead kind body) := by
      have hk : nb kind 1 ++ nb 0 1 = [kind, 0] := by simp only [nb, List.nil_append, List.singleton_append]; rw [show kind % 256 = kind by omega]; rfl
      rw [show frameHead kind body = [68, 70] ++ [kind, 0] ++ nb (body.size : Int) 4 ++ bytesOf body by rw [frameHead, ← hk]; simp only [List.append_assoc]]
      rw [str_append, str_append, str_append, str_back]; rfl
    have hlen := frameHead_length kind body
    have hz : (strOfNums (frameHead kind body)).size = 8 + body.size := by rw [strOfNums_size, hlen]
    have hcr := crc_range (strOfNums (frameHead kind body)).data.toList
    have z1 : (strOfNums [kind, 0]).size = 2 := rfl
    have z2 : (strOfNums (nb (body.size : Int) 4)).size = 4 := by rw [strOfNums_size, nb_length]
    have z3 : (⟨#[68, 70]⟩ : ByteArray).size = 2 := rfl
    refine evIfNeg (by omega) (evBindc rfl (evIfPos (by omega) ?_))
    rw [u64w (x := (body.size : Int)) (by omega) (by omega)]
    refine Ev.bind (number_ev (body.size : Int) (by omega) 4 (by decide)) (evIfPos (by simp only [ByteArray.size_append]; omega) (evIfPos (by simp only [ByteArray.size_append]; omega) ?_))
    rw [hh]
    refine Ev.bind (ref_crc _ (by omega)) ?_
    generalize crcOf (strOfNums (frameHead kind body)).data.toList = cr at *
    rw [u64w (x := cr) (by omega) (by omega)]
    refine Ev.bind (number_ev cr hcr.1 4 (by decide)) ?_
    have z4 : (strOfNums (nb cr 4)).size = 4 := by rw [strOfNums_size, nb_length]
    refine evIfPos (by omega) ?_
    rw [str_append]
    exact Ev.now _
end Go.Proofs.Ytjlohahknngmmaa.PureD

namespace Go.Proofs.Ytjlohahknngmmaa.Pure
set_option linter.unusedVariables false
open Go Go.RowKit Go.Proofs.Ytjlohahknngmmaa Go.Proofs.Ytjlohahknngmmaa.PD Go.Proofs.Ytjlohahknngmmaa.PureD Go.Proofs.Ytjlohahknngmmaa.PureQ Go.Proofs.YtjlohahknngmmaaW.PrintWords Go.Proofs.YtjlohahknngmmaaW.PrintLast
theorem CodecFrames : atriumlaw02_CodecFrames.Pure := by
  intro a0 a1 a2 w0 w1 w2
  have h0 : 0 ≤ a0 ∧ a0 ≤ 255 := by simpa [Lit.wf, IntKind.min, IntKind.max, IntKind.signed, IntKind.bits] using w0
  refine Ev.rounds (evBindc (show atriumlaw02_awake.f = some true from rfl) (evIfPos rfl (evBindc (show codec_Frame.f a0 a1 = some (frameRes a0 a1) by unfold codec_Frame.f; rw [if_pos h0]) (Ev.bind (ref_frame a0 h0.1 h0.2 a1) (evIfPos rfl ?_)))))
  rw [show ((frameRes a0 a1).2 != (frameRes a0 a1).2) = false by simp]
  refine Ev.step (fun k => by simp only [atriumlaw02_CodecFrames.j0]; exact rfl) (evIfNeg (show ¬ (false = true) by decide) ?_)
  by_cases hb : a1.size > 1048576
  · rw [show frameRes a0 a1 = (⟨#[]⟩, 3) by unfold frameRes; rw [if_pos hb]]
    exact evIfNeg (show ¬ (3 : Int) = 0 by decide) (Ev.now _)
  · have hu := unf_frame a0 h0.1 h0.2 a1 a2 (by omega) _ rfl
    have hz : (strOfNums (frameHead a0 a1 ++ nb (crcOf (strOfNums (frameHead a0 a1)).data.toList) 4)).size = 12 + a1.size := by rw [strOfNums_size, List.length_append, frameHead_length, nb_length]; omega
    rw [show frameRes a0 a1 = (strOfNums (frameHead a0 a1 ++ nb (crcOf (strOfNums (frameHead a0 a1)).data.toList) 4), 0) by unfold frameRes; rw [if_neg hb]]
    generalize strOfNums (frameHead a0 a1 ++ nb (crcOf (strOfNums (frameHead a0 a1)).data.toList) 4) = s at *
    refine evIfPos (show (0 : Int) = 0 from rfl) (evIfPos (by dsimp only; omega) (Ev.bind (codec_unf (s ++ a2) (by rw [ByteArray.size_append]; omega)) ?_))
    rw [hu]
    exact evIfPos rfl (evIfPos rfl (evIfPos rfl (Ev.now _)))
end Go.Proofs.Ytjlohahknngmmaa.Pure
