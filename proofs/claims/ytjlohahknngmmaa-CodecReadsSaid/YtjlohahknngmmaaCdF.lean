/- Walk: Frame, a body with its length and check sum. -/
import Derived.Test.YtjlohahknngmmaaCdD
import Derived.Test.YtjlohahknngmmaaCrcC
namespace Go.Proofs.Ytjlohahknngmmaa
open Go Go.RowKit Go.Proofs.YtjlohahknngmmaaW.PrintWords Go.Proofs.YtjlohahknngmmaaW.PrintMore Go.Proofs.YtjlohahknngmmaaW.PrintLast Go.Proofs.Ytjlohahknngmmaa.PC
set_option linter.unusedVariables false
set_option linter.unusedSimpArgs false

theorem putP_fits {most : Int} {l xs : List Int} (h : (l.length : Int) + xs.length ≤ most) : putP most false l xs = (false, l ++ xs) := by
  simp only [putP, Bool.false_eq_true, if_false]
  rw [if_neg (by omega)]

/-- A put that fits. -/
theorem puts_fits {B b : Nat} {most : Int} {v : Value} {l : List Int} {w : World} (h : Wr B b most false v l w) (xs : List Int) (hm2 : most ≤ 140737488355328) (hl : (l.length : Int) + xs.length ≤ most) (hB : B ≤ w.heap.size) :
    Puts (.pointer (some ⟨b, 0, none⟩)) xs w (fun w2 => ∃ v', Wr B b most false v' (l ++ xs) w2 ∧ Below B w w2) := by
  intro A n c w1 hx hb
  refine (puts_some h xs (by omega) (by omega) (by omega) hB A n c w1 hx hb).mono ?_
  rintro e w2 ⟨rfl, v', h1, h2, _, _⟩
  rw [putP_fits hl] at h1
  exact ⟨rfl, v', h1, h2⟩

def frameHead (kind : Int) (body : ByteArray) : List Int := [68, 70] ++ nb kind 1 ++ nb 0 1 ++ nb (body.size : Int) 4 ++ bytesOf body
theorem frameHead_length (kind : Int) (body : ByteArray) : (frameHead kind body).length = 8 + body.size := by
  simp [frameHead, nb_length, bytesOf_length]; omega
def frameRes (kind : Int) (body : ByteArray) : ByteArray × Int :=
  if body.size > 1048576 then (⟨#[]⟩, 3) else (strOfNums (frameHead kind body ++ nb (PureQ.crcOf (strOfNums (frameHead kind body)).data.toList) 4), 0)

theorem strOfNums_size (l : List Int) : (strOfNums l).size = l.length := by
  have h : (strOfNums l).data.toList.length = l.length := by rw [strOfNums_data]; simp
  rw [Array.length_toList] at h
  exact h

set_option maxHeartbeats 2000000 in
theorem frame_any (kind : Int) (body : ByteArray) (w : World) (h0 : 0 ≤ kind) (h1 : kind ≤ 255) :
    Calls Try.prog 34 #[.int .u8 kind, .string body] w fun e w' => e = .returned (.tuple #[.string (frameRes kind body).1, .int .i64 (frameRes kind body).2]) ∧ Below w.heap.size w w' := by
  by_cases hb : body.size > 1048576
  · have hR : frameRes kind body = (⟨#[]⟩, 3) := by unfold frameRes; rw [if_pos hb]
    rw [hR]
    have hb2 : decide ((1048576 : Int) < (body.size : Int)) = true := decide_eq_true (by omega)
    clear hb
    go_enter Try.func34, Try.ntmps34
    go_wp2
    go_ret2
    exact ⟨rfl, Below.refl _ _⟩
  · have hR := Aside0.mk (show frameRes kind body = (strOfNums (frameHead kind body ++ nb (PureQ.crcOf (strOfNums (frameHead kind body)).data.toList) 4), 0) by unfold frameRes; rw [if_neg hb])
    have hb2 : decide ((1048576 : Int) < (body.size : Int)) = false := decide_eq_false (by omega)
    have hsz : body.size ≤ 1048576 := by omega
    have hmx : mx (8 + (body.size : Int) + 4) 0 = 12 + (body.size : Int) := by unfold mx; split <;> omega
    have Hmx := Aside0.mk hmx
    clear hb hmx
    have hu32 : (body.size : Int) % 4294967296 = (body.size : Int) := by omega
    obtain ⟨k, hk⟩ := (PureC.codec_crc (strOfNums (frameHead kind body)) (by rw [strOfNums_size, frameHead_length]; omega)).rounds
    have Hk := Aside0.mk hk
    have Hcr := Aside0.mk (PureQ.crc_range (strOfNums (frameHead kind body)).data.toList)
    clear hk
    go_enter Try.func34, Try.ntmps34
    go_wp2_with (go_at_call 12; refine (newWriter_any _ w.heap.size _ (Nat.le_refl _)).mono ?_)
    rintro e w1 ⟨b, rfl, hW, hB1, hb⟩
    have HW1 : Aside0 (Wr w.heap.size b (12 + (body.size : Int)) false (.slice none 0 0) [] w1) := ⟨by rw [Hmx.out] at hW; exact hW⟩
    have HB1 := Aside0.mk hB1
    have Hdf := Aside0.mk (show bytesOf ⟨#[68, 70]⟩ = [68, 70] by decide)
    clear hW hB1
    go_wp2_with (go_at_call 49; refine (raw_put _ ⟨#[68, 70]⟩ _ (by decide) _ (puts_fits HW1.out (bytesOf ⟨#[68, 70]⟩) (by omega) (by have hds : (⟨#[68, 70]⟩ : ByteArray).size = 2 := rfl; simp only [List.length_append, List.length_nil, nb_length, bytesOf_length, hds]; omega) HB1.out.size)).mono ?_)
    rintro e w2 ⟨rfl, v2, hW, hB⟩
    have HW2 := Aside0.mk hW
    have HB2 := Aside0.mk (HB1.out.trans hB)
    clear hW hB HW1 HB1
    go_wp2_with (go_at_call 45; refine (u8_put _ kind _ h0 h1 _ (puts_fits HW2.out (nb kind 1) (by omega) (by have hds : (⟨#[68, 70]⟩ : ByteArray).size = 2 := rfl; simp only [List.length_append, List.length_nil, nb_length, bytesOf_length, hds]; omega) HB2.out.size)).mono ?_)
    rintro e w3 ⟨rfl, v3, hW, hB⟩
    have HW3 := Aside0.mk hW
    have HB3 := Aside0.mk (HB2.out.trans hB)
    clear hW hB HW2 HB2
    go_wp2_with (go_at_call 45; refine (u8_put _ 0 _ (by decide) (by decide) _ (puts_fits HW3.out (nb 0 1) (by omega) (by have hds : (⟨#[68, 70]⟩ : ByteArray).size = 2 := rfl; simp only [List.length_append, List.length_nil, nb_length, bytesOf_length, hds]; omega) HB3.out.size)).mono ?_)
    rintro e w4 ⟨rfl, v4, hW, hB⟩
    have HW4 := Aside0.mk hW
    have HB4 := Aside0.mk (HB3.out.trans hB)
    clear hW hB HW3 HB3
    go_wp2_with (go_at_call 47; refine (u32_put _ _ _ (by omega) (by omega) _ (puts_fits HW4.out (nb (body.size : Int) 4) (by omega) (by have hds : (⟨#[68, 70]⟩ : ByteArray).size = 2 := rfl; simp only [List.length_append, List.length_nil, nb_length, bytesOf_length, hds]; omega) HB4.out.size)).mono ?_)
    rintro e w5 ⟨rfl, v5, hW, hB⟩
    have HW5 := Aside0.mk hW
    have HB5 := Aside0.mk (HB4.out.trans hB)
    clear hW hB HW4 HB4
    go_wp2_with (go_at_call 49; refine (raw_put _ body _ (by omega) _ (puts_fits HW5.out (bytesOf body) (by omega) (by have hds : (⟨#[68, 70]⟩ : ByteArray).size = 2 := rfl; simp only [List.length_append, List.length_nil, nb_length, bytesOf_length, hds]; omega) HB5.out.size)).mono ?_)
    rintro e w6 ⟨rfl, v6, hW, hB⟩
    have HW6 := Aside0.mk hW
    have HB6 := Aside0.mk (HB5.out.trans hB)
    clear hW hB HW5 HB5
    have HW7 : Aside0 (Wr w.heap.size b (12 + (body.size : Int)) false v6 (frameHead kind body) w6) := ⟨by have h := HW6.out; rw [Hdf.out] at h; exact h⟩
    clear HW6
    go_wp2_with (go_at_call 14; refine (done_some _ _ _ _ _ _ _ HW7.out).mono ?_)
    rintro e w7 ⟨rfl, ⟨n7, rfl⟩⟩
    have HB7 := Aside0.mk (pw_below_drewN HB6.out n7)
    have HW8 := Aside0.mk (HW7.out.drewN n7)
    clear HW7 HB6
    generalize w6.drewN n7 = w7 at *
    have hd : doneP false (frameHead kind body) = (strOfNums (frameHead kind body), 0) := rfl
    rw [hd]
    have Hfl := Aside0.mk (frameHead_length kind body)
    generalize frameHead kind body = fh at *
    clear hd
    generalize PureQ.crcOf (strOfNums fh).data.toList = cr at *
    have hcr0 := Hcr.out.1
    have hcr1 : cr ≤ 4294967295 := by have := Hcr.out.2; omega
    go_wp2_with (go_at_call 32; refine (codec_Crc.calls k _ cr _ Hk.out).mono ?_)
    rintro e w8 ⟨rfl, ⟨n8, rfl⟩⟩
    go_wp2_with (go_at_call 47; refine (u32_put _ cr _ hcr0 hcr1 _ (puts_fits (HW8.out.drewN n8) (nb cr 4) (by omega) (by rw [nb_length]; have := Hfl.out; omega) HB7.out.size)).mono ?_)
    rintro e w9 ⟨rfl, v9, hW, hB⟩
    have HW9 := Aside0.mk hW
    have HB9 := Aside0.mk ((pw_below_drewN HB7.out n8).trans hB)
    clear hW hB HW8 HB7
    go_wp2_with (go_at_call 14; refine (done_some _ _ _ _ _ _ _ HW9.out).mono ?_)
    rintro e w10 ⟨rfl, ⟨n10, rfl⟩⟩
    have hd : doneP false (fh ++ nb cr 4) = (strOfNums (fh ++ nb cr 4), 0) := rfl
    rw [hd]
    clear hd
    go_wp2
    go_ret2
    rw [hR.out]
    exact ⟨rfl, pw_below_drewN HB9.out n10⟩

/-! As the print has its functions. -/
def codec_Frame.f (a0 : Int) (a1 : ByteArray) : Option (ByteArray × Int) := if 0 ≤ a0 ∧ a0 ≤ 255 then some (frameRes a0 a1) else none
theorem codec_Frame.calls (a0 : Int) (a1 : ByteArray) (r1 : ByteArray) (r2 : Int) (w : World) (h : codec_Frame.f a0 a1 = some (r1, r2)) :
    Calls Try.prog 34 #[.int .u8 a0, .string a1] w fun e w' => e = .returned (.tuple #[.string r1, .int .i64 r2]) ∧ Below w.heap.size w w' := by
  unfold codec_Frame.f at h
  split at h
  · rename_i h0
    injection h with h
    have := frame_any a0 a1 w h0.1 h0.2
    rw [h] at this
    exact this
  · cases h
end Go.Proofs.Ytjlohahknngmmaa
