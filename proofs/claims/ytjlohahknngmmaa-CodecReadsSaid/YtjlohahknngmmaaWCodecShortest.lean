/- Walk: the law CodecShortest. Two Writers, two Readers; what is written is the shortest varint, it is read back, and not if it is cut. -/
import Derived.Test.YtjlohahknngmmaaCdF
import Derived.Test.YtjlohahknngmmaaVarC
namespace Go.Proofs.Ytjlohahknngmmaa
open Go Go.RowKit Go.Proofs.YtjlohahknngmmaaW.PrintWords Go.Proofs.YtjlohahknngmmaaW.PrintMore Go.Proofs.YtjlohahknngmmaaW.PrintLast Go.Proofs.Ytjlohahknngmmaa.PC Go.Proofs.Ytjlohahknngmmaa.PureC
set_option linter.unusedVariables false
set_option linter.unusedSimpArgs false

theorem u8s_back (l : List Int) (h : ∀ c ∈ l, 0 ≤ c ∧ c ≤ 255) : bytesOf (strOfNums l) = l := by
  rw [bytesOf, strOfNums_data, List.map_map]
  conv => rhs; rw [← List.map_id l]
  apply List.map_congr_left
  intro c hc
  have := h c hc
  simp only [Function.comp_def, id]
  obtain ⟨n, rfl⟩ := Int.eq_ofNat_of_zero_le this.1
  simp
  omega
theorem bytesOf_append (a b : ByteArray) : bytesOf (a ++ b) = bytesOf a ++ bytesOf b := by simp [bytesOf]

/-- What a Reader finds at the begin of a text. -/
theorem reader_found (s : ByteArray) (n : Int) (m : Nat) (hs : s.size ≤ 281474976710656) (hm : m ≤ s.size) (h : rv [] (bytesOf s) = (n, (m : Int), 0)) : ∃ k, codec_Reader_Varint.f k s 0 = some (n, s.extract m s.size, 0) := by
  obtain ⟨k, hk⟩ := (shape_ev s hs).rounds
  refine ⟨k, ?_⟩
  unfold codec_Reader_Varint.f
  rw [if_pos rfl, hk, h, Option.bind_some]
  dsimp only
  rw [if_pos rfl, if_pos (by omega), if_pos (by omega), Int.toNat_natCast]
theorem reader_short (s : ByteArray) (hs : s.size ≤ 281474976710656) (h : rv [] (bytesOf s) = (0, 0, 20)) : ∃ k, codec_Reader_Varint.f k s 0 = some (0, s, 20) := by
  obtain ⟨k, hk⟩ := (shape_ev s hs).rounds
  refine ⟨k, ?_⟩
  unfold codec_Reader_Varint.f
  rw [if_pos rfl, hk, h, Option.bind_some]
  rfl

theorem reader_keep {w0 W W1 : World} {g g' : Nat} {s : ByteArray} {e : Int} (h : IsS72 w0 W g s e) (hk : KeepBut W W1 g' none) (hne : g ≠ g') : IsS72 w0 W1 g s e := ⟨hk.blk h.1 hne (by simp), h.2⟩
theorem reader_ne {w0 W W1 : World} {g g' : Nat} {s s' : ByteArray} {e e' : Int} (h : IsS72 w0 W g s e) (h' : IsS72 w0 W1 g' s' e') (hb : Below W.heap.size W W1) (hs : s.size ≠ s'.size) : g ≠ g' := by
  rintro rfl
  have h1 := h'.1
  rw [hb.block g (blk_lt h.1), h.1] at h1
  injection h1 with h1
  injection h1 with h1
  have h2 := congrArg (fun a : Array Value => a[0]?) h1
  simp at h2
  exact hs (by rw [h2])
theorem facts_of (a b : Int) (behind : ByteArray) (h0 : 0 ≤ a) (h : a ≤ b) (h1 : b < 18446744073709551616) (hs : behind.size ≤ 140737488351232) :
    1 ≤ (strOfNums (vb 9 a)).size ∧ (strOfNums (vb 9 a)).size ≤ (strOfNums (vb 9 b)).size ∧ (strOfNums (vb 9 b)).size ≤ 10 ∧ (strOfNums (vb 9 b)).size + behind.size ≤ 281474976710656 ∧ 1 ≤ (strOfNums (vb 9 b)).size ∧
    ∃ k1 k2, codec_Reader_Varint.f k1 (strOfNums (vb 9 b) ++ behind) 0 = some (b, (strOfNums (vb 9 b) ++ behind).extract (strOfNums (vb 9 b)).size (strOfNums (vb 9 b) ++ behind).size, 0) ∧
      codec_Reader_Varint.f k2 ((strOfNums (vb 9 b)).extract 0 ((strOfNums (vb 9 b)).size - 1)) 0 = some (0, (strOfNums (vb 9 b)).extract 0 ((strOfNums (vb 9 b)).size - 1), 20) := by
  have e1 := strOfNums_size (vb 9 a)
  have e2 := strOfNums_size (vb 9 b)
  have l1 := vb_pos 9 a
  have l2 := vb_mono 9 a b h0 h
  have l3 := vb_len 9 b
  have hb := u8s_back (vb 9 b) (vb_bytes 9 b (by omega))
  refine ⟨by omega, by omega, by omega, by omega, by omega, ?_⟩
  obtain ⟨k1, hk1⟩ := reader_found (strOfNums (vb 9 b) ++ behind) b (strOfNums (vb 9 b)).size (by rw [ByteArray.size_append]; omega) (by rw [ByteArray.size_append]; omega) (by
    rw [bytesOf_append, hb, rv_vb 9 b [] (bytesOf behind) rfl (by omega) (by simpa using h1) (by simp), e2]
    simp [lv])
  obtain ⟨k2, hk2⟩ := reader_short ((strOfNums (vb 9 b)).extract 0 ((strOfNums (vb 9 b)).size - 1)) (by simp only [ByteArray.size_extract]; omega) (by
    have : bytesOf ((strOfNums (vb 9 b)).extract 0 ((strOfNums (vb 9 b)).size - 1)) = (vb 9 b).dropLast := by
      conv => rhs; rw [← hb]
      rw [bytesOf, bytesOf, ByteArray.data_extract, Array.toList_extract, List.extract_eq_take_drop, List.drop_zero, List.dropLast_eq_take, List.length_map, data_length, List.map_take]
      rfl
    rw [this]
    exact rv_cut 9 b [] rfl (by omega))
  exact ⟨k1, k2, hk1, hk2⟩

set_option maxHeartbeats 2000000 in
/-- From the two Writers on: a ≤ b. -/
theorem shortest_any (a b : Int) (behind : ByteArray) (w : World) (ha : (Lit.int .u64 a).wf = true) (hb : (Lit.int .u64 b).wf = true) (hs : behind.size ≤ 140737488351232) :
    Calls Try.prog 3 #[.int .u64 a, .int .u64 b, .string behind] w fun e w' => e = .returned (.bool true) ∧ Below w.heap.size w w' := by
  have hup := Try.underlying24
  have hup2 := Try.underlying30
  have ha2 : 0 ≤ a ∧ a < 18446744073709551616 := by
    have : 0 ≤ a ∧ a ≤ 18446744073709551615 := by simpa [Lit.wf, IntKind.min, IntKind.max, IntKind.signed, IntKind.bits] using ha
    omega
  have hb2 : 0 ≤ b ∧ b < 18446744073709551616 := by
    have : 0 ≤ b ∧ b ≤ 18446744073709551615 := by simpa [Lit.wf, IntKind.min, IntKind.max, IntKind.signed, IntKind.bits] using hb
    omega
  clear ha hb
  go_enter Try.func3, Try.ntmps3
  go_wp2_with (go_at_call 11; refine (awake_any _).mono ?_)
  rintro e w1 ⟨rfl, hB1⟩
  have HB1 := Aside0.mk hB1
  clear hB1
  by_cases hab : b < a
  · have hd : decide (b < a) = true := decide_eq_true hab
    have h0 : 0 ≤ b := by omega
    have hle : b ≤ a := by omega
    have h1 : a < 18446744073709551616 := by omega
    have Hlo := Aside0.mk (varint_eq b h0 (by omega))
    have Hhi := Aside0.mk (varint_eq a (by omega) h1)
    have Hf := Aside0.mk (facts_of b a behind h0 hle h1 hs)
    have Llo := vb_len 9 b
    have Lhi := vb_len 9 a
    generalize vb 9 b = la at *
    generalize vb 9 a = lb at *
    clear hle h0 h1 ha2 hb2 hab
    go_wp2_with (go_at_call 12; refine (newWriter_any 20 w.heap.size _ HB1.out.size).mono ?_)
    rintro e w2 ⟨b1, rfl, hW, hB, hb1⟩
    have HW1 : Aside0 (Wr w.heap.size b1 20 false (.slice none 0 0) [] w2) := ⟨hW⟩
    have HB2 := Aside0.mk (HB1.out.trans (hB.mono HB1.out.size))
    clear hW hB HB1
    go_wp2_with (go_at_call 12; refine (newWriter_any 20 w.heap.size _ HB2.out.size).mono ?_)
    rintro e w3 ⟨b2, rfl, hW, hB, hb2⟩
    have Hne := Aside0.mk (show b1 < b2 from Nat.lt_of_lt_of_le HW1.out.lt hb2)
    have HW1 := Aside0.mk (HW1.out.below hB)
    have HW2 : Aside0 (Wr w.heap.size b2 20 false (.slice none 0 0) [] w3) := ⟨hW⟩
    have HB3 := Aside0.mk (HB2.out.trans (hB.mono HB2.out.size))
    have Hlt2 := Aside0.mk HW2.out.lt
    clear hW hB HB2 hb1 hb2
    go_wp2_with (go_at_call 13; refine (varint_put _ 10 _ la _ Hlo.out _ (puts_some HW1.out la (by decide) (by decide) (by rw [List.length_nil]; omega) HB3.out.size)).mono ?_)
    rintro e w4 ⟨rfl, v4, hW, hB, hK, hA⟩
    rw [putP_fits (by rw [List.length_nil]; omega)] at hW
    have HW1 : Aside0 (Wr w.heap.size b1 20 false v4 la w4) := ⟨hW⟩
    have HW2 := Aside0.mk (HW2.out.keep hK (by have := Hne.out; omega) (by simp [Value.ownBlock]) (by simp [Value.ownBlock]) (.inl rfl))
    have HB4 := Aside0.mk (HB3.out.trans hB)
    have Hv4 : Aside0 (v4.ownBlock ≠ some b2) := ⟨by rcases hA with h | ⟨q, h, hq⟩
                                                     · rw [h]; simp [Value.ownBlock]
                                                     · rw [h]; intro e; injection e with e; have := Hlt2.out; omega⟩
    clear hW hB hK hA HB3
    go_wp2_with (go_at_call 13; refine (varint_put _ 10 _ lb _ Hhi.out _ (puts_some HW2.out lb (by decide) (by decide) (by rw [List.length_nil]; omega) HB4.out.size)).mono ?_)
    rintro e w5 ⟨rfl, v5, hW, hB, hK, hA⟩
    rw [putP_fits (by rw [List.length_nil]; omega)] at hW
    have HW2 : Aside0 (Wr w.heap.size b2 20 false v5 lb w5) := ⟨hW⟩
    have HW1 := Aside0.mk (HW1.out.keep hK (by have := Hne.out; omega) (by simp [Value.ownBlock]) Hv4.out (by cases v4.ownBlock <;> simp [Value.ownBlock]))
    have HB5 := Aside0.mk (HB4.out.trans hB)
    clear hW hB hK hA HB4
    go_wp2_with (go_at_call 14; refine (done_some _ _ _ _ _ _ _ HW1.out).mono ?_)
    rintro e w6 ⟨rfl, ⟨n6, rfl⟩⟩
    have HB6 := Aside0.mk (pw_below_drewN HB5.out n6)
    have HW2 := Aside0.mk (HW2.out.drewN n6)
    clear HB5 HW1
    generalize w5.drewN n6 = w6 at *
    go_wp2_with (go_at_call 14; refine (done_some _ _ _ _ _ _ _ HW2.out).mono ?_)
    rintro e w7 ⟨rfl, ⟨n7, rfl⟩⟩
    have HB7 := Aside0.mk (pw_below_drewN HB6.out n7)
    clear HB6 HW2
    generalize w6.drewN n7 = w7 at *
    rw [show doneP false la = (strOfNums la, 0) from rfl, show doneP false lb = (strOfNums lb, 0) from rfl]
    obtain ⟨f1, f2, f3, f4, f5, k1, k2, f6, f7⟩ := Hf.out
    have F6 := Aside0.mk f6
    have F7 := Aside0.mk f7
    clear f6 f7 Hf
    generalize strOfNums la = sa at *
    generalize strOfNums lb = sb at *
    go_wp2_with (go_at_call 15; refine (codec_NewReader.calls _ _ 0 w _ HB7.out rfl).mono ?_)
    rintro e w8 ⟨g1, rfl, hI, hB, _⟩
    have HI1 := Aside0.mk hI
    have HB8 := Aside0.mk hB
    clear hI hB HB7
    go_wp2_with (go_at_call 15; refine (codec_NewReader.calls _ _ 0 w _ HB8.out rfl).mono ?_)
    rintro e w9 ⟨g2, rfl, hI, hB, hN⟩
    have HI2 := Aside0.mk hI
    have Hg := Aside0.mk (show g1 ≠ g2 from reader_ne HI1.out hI hN (by simp only [ByteArray.size_extract, ByteArray.size_append]; omega))
    have HI1 := Aside0.mk (HI1.out.below hN)
    have HB9 := Aside0.mk hB
    clear hI hB HB8 hN
    go_wp2_with (go_at_call 16; refine (codec_Reader_Varint.calls k1 g1 _ _ _ _ _ w _ HI1.out HB9.out F6.out).mono ?_)
    rintro e w10 ⟨rfl, hI, hB, hK⟩
    have HI1 := Aside0.mk hI
    have HI2 := Aside0.mk (reader_keep HI2.out hK (fun e => Hg.out e.symm))
    have HB10 := Aside0.mk hB
    have Hsz := Aside0.mk (show codec_Reader_Left.f ((sb ++ behind).extract sb.size (sb ++ behind).size) 0 = some ((behind.size : Int), (sb ++ behind).extract sb.size (sb ++ behind).size, 0) by
      unfold codec_Reader_Left.f
      rw [if_pos rfl, extract_size, ByteArray.size_append, Nat.add_sub_cancel_left])
    clear hI hB hK HB9
    go_wp2_with (go_at_call 17; refine (codec_Reader_Left.calls g1 _ _ _ _ _ w _ HI1.out HB10.out Hsz.out).mono ?_)
    rintro e w11 ⟨rfl, hI, hB, hK⟩
    have HI2 := Aside0.mk (reader_keep HI2.out hK (fun e => Hg.out e.symm))
    have HB11 := Aside0.mk hB
    clear hI hB hK HB10 HI1
    go_wp2_with (go_at_call 16; refine (codec_Reader_Varint.calls k2 g2 _ _ _ _ _ w _ HI2.out HB11.out F7.out).mono ?_)
    rintro e w12 ⟨rfl, hI, hB, hK⟩
    have HI2 := Aside0.mk hI
    have HB12 := Aside0.mk hB
    clear hI hB hK HB11
    go_wp2_with (go_at_call 18; refine (codec_Reader_Err.calls g2 _ _ _ _ _ w _ HI2.out HB12.out rfl).mono ?_)
    rintro e w13 ⟨rfl, hI, hB, hK⟩
    have HB13 := Aside0.mk hB
    clear hI hB hK HB12
    go_wp2
    go_ret
    exact ⟨rfl, HB13.out⟩
  · have hd : decide (b < a) = false := decide_eq_false hab
    have h0 : 0 ≤ a := by omega
    have hle : a ≤ b := by omega
    have h1 : b < 18446744073709551616 := by omega
    have Hlo := Aside0.mk (varint_eq a h0 (by omega))
    have Hhi := Aside0.mk (varint_eq b (by omega) h1)
    have Hf := Aside0.mk (facts_of a b behind h0 hle h1 hs)
    have Llo := vb_len 9 a
    have Lhi := vb_len 9 b
    generalize vb 9 a = la at *
    generalize vb 9 b = lb at *
    clear hle h0 h1 ha2 hb2 hab
    go_wp2_with (go_at_call 12; refine (newWriter_any 20 w.heap.size _ HB1.out.size).mono ?_)
    rintro e w2 ⟨b1, rfl, hW, hB, hb1⟩
    have HW1 : Aside0 (Wr w.heap.size b1 20 false (.slice none 0 0) [] w2) := ⟨hW⟩
    have HB2 := Aside0.mk (HB1.out.trans (hB.mono HB1.out.size))
    clear hW hB HB1
    go_wp2_with (go_at_call 12; refine (newWriter_any 20 w.heap.size _ HB2.out.size).mono ?_)
    rintro e w3 ⟨b2, rfl, hW, hB, hb2⟩
    have Hne := Aside0.mk (show b1 < b2 from Nat.lt_of_lt_of_le HW1.out.lt hb2)
    have HW1 := Aside0.mk (HW1.out.below hB)
    have HW2 : Aside0 (Wr w.heap.size b2 20 false (.slice none 0 0) [] w3) := ⟨hW⟩
    have HB3 := Aside0.mk (HB2.out.trans (hB.mono HB2.out.size))
    have Hlt2 := Aside0.mk HW2.out.lt
    clear hW hB HB2 hb1 hb2
    go_wp2_with (go_at_call 13; refine (varint_put _ 10 _ la _ Hlo.out _ (puts_some HW1.out la (by decide) (by decide) (by rw [List.length_nil]; omega) HB3.out.size)).mono ?_)
    rintro e w4 ⟨rfl, v4, hW, hB, hK, hA⟩
    rw [putP_fits (by rw [List.length_nil]; omega)] at hW
    have HW1 : Aside0 (Wr w.heap.size b1 20 false v4 la w4) := ⟨hW⟩
    have HW2 := Aside0.mk (HW2.out.keep hK (by have := Hne.out; omega) (by simp [Value.ownBlock]) (by simp [Value.ownBlock]) (.inl rfl))
    have HB4 := Aside0.mk (HB3.out.trans hB)
    have Hv4 : Aside0 (v4.ownBlock ≠ some b2) := ⟨by rcases hA with h | ⟨q, h, hq⟩
                                                     · rw [h]; simp [Value.ownBlock]
                                                     · rw [h]; intro e; injection e with e; have := Hlt2.out; omega⟩
    clear hW hB hK hA HB3
    go_wp2_with (go_at_call 13; refine (varint_put _ 10 _ lb _ Hhi.out _ (puts_some HW2.out lb (by decide) (by decide) (by rw [List.length_nil]; omega) HB4.out.size)).mono ?_)
    rintro e w5 ⟨rfl, v5, hW, hB, hK, hA⟩
    rw [putP_fits (by rw [List.length_nil]; omega)] at hW
    have HW2 : Aside0 (Wr w.heap.size b2 20 false v5 lb w5) := ⟨hW⟩
    have HW1 := Aside0.mk (HW1.out.keep hK (by have := Hne.out; omega) (by simp [Value.ownBlock]) Hv4.out (by cases v4.ownBlock <;> simp [Value.ownBlock]))
    have HB5 := Aside0.mk (HB4.out.trans hB)
    clear hW hB hK hA HB4
    go_wp2_with (go_at_call 14; refine (done_some _ _ _ _ _ _ _ HW1.out).mono ?_)
    rintro e w6 ⟨rfl, ⟨n6, rfl⟩⟩
    have HB6 := Aside0.mk (pw_below_drewN HB5.out n6)
    have HW2 := Aside0.mk (HW2.out.drewN n6)
    clear HB5 HW1
    generalize w5.drewN n6 = w6 at *
    go_wp2_with (go_at_call 14; refine (done_some _ _ _ _ _ _ _ HW2.out).mono ?_)
    rintro e w7 ⟨rfl, ⟨n7, rfl⟩⟩
    have HB7 := Aside0.mk (pw_below_drewN HB6.out n7)
    clear HB6 HW2
    generalize w6.drewN n7 = w7 at *
    rw [show doneP false la = (strOfNums la, 0) from rfl, show doneP false lb = (strOfNums lb, 0) from rfl]
    obtain ⟨f1, f2, f3, f4, f5, k1, k2, f6, f7⟩ := Hf.out
    have F6 := Aside0.mk f6
    have F7 := Aside0.mk f7
    clear f6 f7 Hf
    generalize strOfNums la = sa at *
    generalize strOfNums lb = sb at *
    go_wp2_with (go_at_call 15; refine (codec_NewReader.calls _ _ 0 w _ HB7.out rfl).mono ?_)
    rintro e w8 ⟨g1, rfl, hI, hB, _⟩
    have HI1 := Aside0.mk hI
    have HB8 := Aside0.mk hB
    clear hI hB HB7
    go_wp2_with (go_at_call 15; refine (codec_NewReader.calls _ _ 0 w _ HB8.out rfl).mono ?_)
    rintro e w9 ⟨g2, rfl, hI, hB, hN⟩
    have HI2 := Aside0.mk hI
    have Hg := Aside0.mk (show g1 ≠ g2 from reader_ne HI1.out hI hN (by simp only [ByteArray.size_extract, ByteArray.size_append]; omega))
    have HI1 := Aside0.mk (HI1.out.below hN)
    have HB9 := Aside0.mk hB
    clear hI hB HB8 hN
    go_wp2_with (go_at_call 16; refine (codec_Reader_Varint.calls k1 g1 _ _ _ _ _ w _ HI1.out HB9.out F6.out).mono ?_)
    rintro e w10 ⟨rfl, hI, hB, hK⟩
    have HI1 := Aside0.mk hI
    have HI2 := Aside0.mk (reader_keep HI2.out hK (fun e => Hg.out e.symm))
    have HB10 := Aside0.mk hB
    have Hsz := Aside0.mk (show codec_Reader_Left.f ((sb ++ behind).extract sb.size (sb ++ behind).size) 0 = some ((behind.size : Int), (sb ++ behind).extract sb.size (sb ++ behind).size, 0) by
      unfold codec_Reader_Left.f
      rw [if_pos rfl, extract_size, ByteArray.size_append, Nat.add_sub_cancel_left])
    clear hI hB hK HB9
    go_wp2_with (go_at_call 17; refine (codec_Reader_Left.calls g1 _ _ _ _ _ w _ HI1.out HB10.out Hsz.out).mono ?_)
    rintro e w11 ⟨rfl, hI, hB, hK⟩
    have HI2 := Aside0.mk (reader_keep HI2.out hK (fun e => Hg.out e.symm))
    have HB11 := Aside0.mk hB
    clear hI hB hK HB10 HI1
    go_wp2_with (go_at_call 16; refine (codec_Reader_Varint.calls k2 g2 _ _ _ _ _ w _ HI2.out HB11.out F7.out).mono ?_)
    rintro e w12 ⟨rfl, hI, hB, hK⟩
    have HI2 := Aside0.mk hI
    have HB12 := Aside0.mk hB
    clear hI hB hK HB11
    go_wp2_with (go_at_call 18; refine (codec_Reader_Err.calls g2 _ _ _ _ _ w _ HI2.out HB12.out rfl).mono ?_)
    rintro e w13 ⟨rfl, hI, hB, hK⟩
    have HB13 := Aside0.mk hB
    clear hI hB hK HB12
    go_wp2
    go_ret
    exact ⟨rfl, HB13.out⟩
end Go.Proofs.Ytjlohahknngmmaa
