/- Walk: awake, what must come of every program of the codec. -/
import Derived.Test.YtjlohahknngmmaaCdC
namespace Go.Proofs.Ytjlohahknngmmaa
open Go Go.RowKit Go.Proofs.YtjlohahknngmmaaW.PrintWords Go.Proofs.YtjlohahknngmmaaW.PrintMore Go.Proofs.YtjlohahknngmmaaW.PrintLast Go.Proofs.Ytjlohahknngmmaa.PC
set_option linter.unusedVariables false

/-- A Writer stands where nothing that was there has turned. -/
theorem Wr.below {B b : Nat} {most : Int} {over : Bool} {v : Value} {l : List Int} {w w' : World} (h : Wr B b most over v l w) (hb : Below w.heap.size w w') : Wr B b most over v l w' := by
  have hne := h.own_ne
  obtain ⟨h1, h2, h3⟩ := h
  exact ⟨(hb.block b (blk_lt h1)).trans h1, h2.kept (grown_of_below hb none) (by cases hv : v.ownBlock <;> simp), h3⟩

theorem puts_some {B b : Nat} {most : Int} {over : Bool} {v : Value} {l : List Int} {w : World} (h : Wr B b most over v l w) (xs : List Int) (hm : 0 ≤ most) (hm2 : most ≤ 9223372036854775807) (hl : l.length + xs.length ≤ 140737488355328) (hB : B ≤ w.heap.size) :
    Puts (.pointer (some ⟨b, 0, none⟩)) xs w (fun w2 => WPost B b most v (putP most over l xs) w w2) := by
  intro A n c w1 hx hb
  refine (put_some B b most over v l A n c xs w1 (h.below hb) hx hm hm2 hl (Nat.le_trans hB hb.size)).mono ?_
  rintro e w2 ⟨rfl, v', h1, h2, h3, h4⟩
  refine ⟨rfl, v', h1, (hb.mono hB).trans h2, (KeepBut.of_below hb b _).trans h3 (.inl rfl), ?_⟩
  rcases h4 with h4 | ⟨q, h4, h5⟩
  · exact .inl h4
  · exact .inr ⟨q, h4, Nat.le_trans hb.size h5⟩

theorem WPost.trans_ {B b : Nat} {most : Int} {v v' : Value} {w w1 w2 : World} {p : Bool × List Int} (hb : Below B w w1) (hk : KeepBut w w1 b v.ownBlock) (ha : v'.ownBlock = v.ownBlock ∨ ∃ c, v'.ownBlock = some c ∧ w.heap.size ≤ c) (h : WPost B b most v' p w1 w2) : WPost B b most v p w w2 := by
  obtain ⟨v'', h1, h2, h3, h4⟩ := h
  refine ⟨v'', h1, hb.trans h2, hk.trans h3 ha, ?_⟩
  rcases h4 with h4 | ⟨q, h4, h5⟩
  · rw [h4]; exact ha
  · exact .inr ⟨q, h4, Nat.le_trans hk.1 h5⟩

theorem crc_nine : codec_Crc.f 200 ⟨#[49, 50, 51, 52, 53, 54, 55, 56, 57]⟩ = some 3808858755 := by decide +kernel
theorem varint_300 : codec_varint.f 5 300 = some [172, 2] := by decide +kernel
theorem varint_2 : codec_varint.f 5 (((⟨#[97, 98]⟩ : ByteArray).size : Nat) : Int) = some [2] := by decide +kernel
theorem rVarint_awake : codec_Reader_Varint.f 12 ⟨#[172, 2, 2, 97, 98]⟩ 0 = some (300, ⟨#[2, 97, 98]⟩, 0) := by decide +kernel
theorem rText_awake : codec_Reader_Text.f 12 ⟨#[2, 97, 98]⟩ 0 = some (⟨#[97, 98]⟩, ⟨#[]⟩, 0) := by decide +kernel
theorem rDone_awake : codec_Reader_Done.f ⟨#[]⟩ 0 = some (0, ⟨#[]⟩, 0) := by decide +kernel

set_option maxHeartbeats 2000000 in
theorem awake_any (w : World) : Calls Try.prog 11 #[] w fun e w' => e = .returned (.bool true) ∧ Below w.heap.size w w' := by
  have hup := Try.underlying24
  have hup2 := Try.underlying30
  go_enter Try.func11, Try.ntmps11
  go_wp2_with (go_at_call 12; refine (newWriter_any 100 w.heap.size _ (Nat.le_refl _)).mono ?_)
  rintro e w1 ⟨b, rfl, hW, hB1, hb⟩
  have HW : Aside0 (Wr w.heap.size b 100 false (.slice none 0 0) [] w1) := ⟨hW⟩
  have HB1 := Aside0.mk hB1
  clear hW hB1
  go_wp2_with (go_at_call 32; refine (codec_Crc.calls 200 _ 3808858755 _ crc_nine).mono ?_)
  rintro e w2 ⟨rfl, ⟨n, rfl⟩⟩
  go_wp2_with (go_at_call 13; refine (varint_put _ 5 300 [172, 2] _ varint_300 _ (puts_some (HW.out.drewN n) [172, 2] (by decide) (by decide) (by decide) (Nat.le_trans HB1.out.size (Nat.le_refl _)))).mono ?_)
  rintro e w3 ⟨rfl, v3, hW3, hB3, hK3, ha3⟩
  have HW3 : Aside0 (Wr w.heap.size b 100 false v3 [172, 2] w3) := ⟨by simpa [putP] using hW3⟩
  have HB3 := Aside0.mk ((pw_below_drewN HB1.out n).trans hB3)
  clear hW3 hB3 hK3 ha3 HW HB1
  go_wp2_with (go_at_call 36; refine (text_put _ 5 ⟨#[97, 98]⟩ [2] _ (by decide) varint_2 (by decide) _ (puts_some HW3.out ([2] ++ bytesOf ⟨#[97, 98]⟩) (by decide) (by decide) (by decide) HB3.out.size)).mono ?_)
  rintro e w4 ⟨rfl, v4, hW4, hB4, hK4, ha4⟩
  have HW4 : Aside0 (Wr w.heap.size b 100 false v4 [172, 2, 2, 97, 98] w4) := ⟨by simpa [putP, bytesOf] using hW4⟩
  have HB4 := Aside0.mk (HB3.out.trans hB4)
  clear hW4 hB4 hK4 ha4 HW3 HB3
  go_wp2_with (go_at_call 14; refine (done_some _ _ _ _ _ _ _ HW4.out).mono ?_)
  rintro e w5 ⟨rfl, ⟨n5, rfl⟩⟩
  have hd : doneP false [172, 2, 2, 97, 98] = (⟨#[172, 2, 2, 97, 98]⟩, 0) := by decide +kernel
  rw [hd]
  have HB5 := Aside0.mk (pw_below_drewN HB4.out n5)
  clear HB4 HW4 hd
  generalize w4.drewN n5 = w5 at *
  go_wp2_with (go_at_call 15; refine (codec_NewReader.calls _ ⟨#[172, 2, 2, 97, 98]⟩ 0 w _ HB5.out rfl).mono ?_)
  rintro e w6 ⟨g, rfl, hI, hB6, _⟩
  have HI := Aside0.mk hI
  have HB6 := Aside0.mk hB6
  clear hI hB6 HB5
  go_wp2_with (go_at_call 16; refine (codec_Reader_Varint.calls 12 g _ _ 300 ⟨#[2, 97, 98]⟩ 0 w _ HI.out HB6.out rVarint_awake).mono ?_)
  rintro e w7 ⟨rfl, hI, hB7, _⟩
  have HI7 := Aside0.mk hI
  have HB7 := Aside0.mk hB7
  clear hI hB7 HB6 HI
  go_wp2_with (go_at_call 27; refine (codec_Reader_Text.calls 12 g _ _ ⟨#[97, 98]⟩ ⟨#[]⟩ 0 w _ HI7.out HB7.out rText_awake).mono ?_)
  rintro e w8 ⟨rfl, hI, hB8, _⟩
  have HI8 := Aside0.mk hI
  have HB8 := Aside0.mk hB8
  clear hI hB8 HB7 HI7
  go_wp2_with (go_at_call 29; refine (codec_Reader_Done.calls g _ _ 0 ⟨#[]⟩ 0 w _ HI8.out HB8.out rDone_awake).mono ?_)
  rintro e w9 ⟨rfl, hI, hB9, _⟩
  have HB9 := Aside0.mk hB9
  clear hI hB9 HB8 HI8
  go_wp2
  go_ret
  exact ⟨rfl, HB9.out⟩

/-! As the print has its functions. -/
def atriumlaw02_awake.f : Option Bool := some true
theorem atriumlaw02_awake.calls (r : Bool) (w : World) (h : atriumlaw02_awake.f = some r) :
    Calls Try.prog 11 #[] w fun e w' => e = .returned (.bool r) ∧ Below w.heap.size w w' := by
  obtain rfl := Option.some.inj h
  exact awake_any w
end Go.Proofs.Ytjlohahknngmmaa
