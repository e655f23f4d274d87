/- Walk: awake, of mac. -/
import Derived.Test.YtililaifppblhaaRefM
import Derived.Test.YtililaifppblhaaMacP
namespace Go.Proofs.Ytililaifppblhaa
namespace Sha
open Go Go.RowKit Go.Proofs.Ytililaifppblhaa Go.Proofs.YtililaifppblhaaW.PrintWords
set_option linter.unusedVariables false
set_option linter.unusedSimpArgs false

def hexes : ByteArray := ⟨#[48, 49, 50, 51, 52, 53, 54, 55, 56, 57, 97, 98, 99, 100, 101, 102]⟩
def letters : ByteArray := ⟨#[65, 66, 67, 68, 69, 70, 71, 72, 73, 74, 75, 76, 77, 78, 79, 80, 81, 82, 83, 84, 85, 86, 87, 88, 89, 90, 97, 98, 99, 100, 101, 102, 103, 104, 105, 106, 107, 108, 109, 110, 111, 112, 113, 114, 115, 116, 117, 118, 119, 120, 121, 122, 48, 49, 50, 51, 52, 53, 54, 55, 56, 57, 45, 95]⟩
theorem hex_any (s : ByteArray) (w : World) (hs : s.size ≤ 70368744177664) : Calls Try.prog 27 #[.string s] w fun e w' => e = .returned (.string ⟨(letB hexes (hexL s.data.toList)).toArray⟩) ∧ Below w.heap.size w w' := by
  have hg := groups_any s 4 hexes
  rw [enc4, hexL_len, Array.length_toList] at hg
  have hz : s.data.size = s.size := rfl
  have Hg := Aside0.mk (fun wx => hg wx (by omega) (by omega) (.inl rfl) rfl)
  clear hg hz
  go_enter Try.func27, Try.ntmps27
  go_wp2_with fail
  refine (Hg.out _).mono ?_
  rintro e w1 ⟨rfl, hb⟩
  go_wp2
  go_ret
  exact ⟨rfl, hb⟩
theorem b64_any (s : ByteArray) (w : World) (hs : s.size ≤ 105553116266496) : Calls Try.prog 29 #[.string s] w fun e w' => e = .returned (.string ⟨(letB letters (b64L s.data.toList)).toArray⟩) ∧ Below w.heap.size w w' := by
  have hg := groups_any s 6 letters
  rw [enc6, b64L_len, Array.length_toList] at hg
  have hz : s.data.size = s.size := rfl
  have Hg := Aside0.mk (fun wx => hg wx (by omega) (by omega) (.inr rfl) rfl)
  clear hg hz
  go_enter Try.func29, Try.ntmps29
  go_wp2_with fail
  refine (Hg.out _).mono ?_
  rintro e w1 ⟨rfl, hb⟩
  go_wp2
  go_ret
  exact ⟨rfl, hb⟩
theorem abc_hex : (⟨(letB hexes (hexL (sumV [97, 98, 99]))).toArray⟩ : ByteArray) = ⟨#[98, 97, 55, 56, 49, 54, 98, 102, 56, 102, 48, 49, 99, 102, 101, 97, 52, 49, 52, 49, 52, 48, 100, 101, 53, 100, 97, 101, 50, 50, 50, 51, 98, 48, 48, 51, 54, 49, 97, 51, 57, 54, 49, 55, 55, 97, 57, 99, 98, 52, 49, 48, 102, 102, 54, 49, 102, 50, 48, 48, 49, 53, 97, 100]⟩ := by decide +kernel
theorem fbff : (⟨(letB letters (b64L [251, 255])).toArray⟩ : ByteArray) = ⟨#[45, 95, 56]⟩ := by decide +kernel
set_option maxHeartbeats 1000000 in
theorem awake_any (w : World) : Calls Try.prog 11 #[] w fun e w' => e = .returned (.bool true) ∧ Below w.heap.size w w' := by
  have hup := Try.underlying26
  go_enter Try.func11, Try.ntmps11
  go_wp2_with fail
  refine (new_any _).mono ?_
  rintro e1 w1 ⟨h, rfl, hh, H1, hb1⟩
  have H1 := Aside0.mk (hx_new H1)
  have Hb1 := Aside0.mk hb1
  have Hh := Aside0.mk hh
  clear hb1 hh
  go_wp2_with fail
  refine (write_any h [] 0 ⟨#[97, 98]⟩ w1 H1.out (by decide) (by decide)).mono ?_
  rintro e2 w2 ⟨rfl, h2, k2⟩
  have H2 := Aside0.mk (show HX h [97, 98] 2 w2 from h2)
  have Hb2 := Aside0.mk (kb_below Hb1.out k2 Hh.out Hb1.out.size)
  clear h2 k2 H1
  go_wp2_with fail
  refine (write_any h [97, 98] 2 ⟨#[99]⟩ w2 H2.out (by decide) (by decide)).mono ?_
  rintro e3 w3 ⟨rfl, h3, k3⟩
  have H3 := Aside0.mk (show HX h [97, 98, 99] [97, 98, 99].length w3 from h3)
  have Hb3 := Aside0.mk (kb_below Hb2.out k3 Hh.out Hb2.out.size)
  clear h3 k3 H2
  go_wp2_with fail
  refine (mac_sum_any ⟨#[97, 98, 99]⟩ w3 (by decide)).mono ?_
  rintro e4 w4 ⟨rfl, hb4⟩
  have H4 := Aside0.mk (H3.out.kept (hb4.block _ H3.out.lt))
  have Hb4 := Aside0.mk (Hb3.out.trans (hb4.mono Hb3.out.size))
  clear hb4 H3
  go_wp2_with fail
  refine (hex_any ⟨(sumV [97, 98, 99]).toArray⟩ w4 (by rw [show (⟨(sumV [97, 98, 99]).toArray⟩ : ByteArray).size = 32 from sumT_size ⟨#[97, 98, 99]⟩]; decide)).mono ?_
  rw [show (⟨(sumV [97, 98, 99]).toArray⟩ : ByteArray).data.toList = sumV [97, 98, 99] from rfl, abc_hex]
  rintro e5 w5 ⟨rfl, hb5⟩
  have H5 := Aside0.mk (H4.out.kept (hb5.block _ H4.out.lt))
  have Hb5 := Aside0.mk (Hb4.out.trans (hb5.mono Hb4.out.size))
  clear hb5 H4
  go_wp2_with fail
  refine (sum_any h [97, 98, 99] w5 H5.out (by decide)).mono ?_
  rintro e6 w6 ⟨rfl, hb6⟩
  have Hb6 := Aside0.mk (Hb5.out.trans (hb6.mono Hb5.out.size))
  clear hb6 H5
  go_wp2_with fail
  refine (mac_sum_any ⟨#[97, 98, 99]⟩ w6 (by decide)).mono ?_
  rintro e7 w7 ⟨rfl, hb7⟩
  have Hb7 := Aside0.mk (Hb6.out.trans (hb7.mono Hb6.out.size))
  clear hb7
  go_wp2_with fail
  refine (b64_any ⟨#[251, 255]⟩ w7 (by decide)).mono ?_
  rw [show (⟨#[251, 255]⟩ : ByteArray).data.toList = [251, 255] from rfl, fbff]
  rintro e8 w8 ⟨rfl, hb8⟩
  have Hb8 := Aside0.mk (Hb7.out.trans (hb8.mono Hb7.out.size))
  clear hb8
  go_wp2
  go_ret
  exact ⟨rfl, Hb8.out⟩
end Sha
open Go Go.RowKit
def atriumref04_Mac.f (a0 a1 : ByteArray) : Option ByteArray := if a0.size ≤ 140737488354900 ∧ a1.size ≤ 140737488354800 then some (Sha.macT a0 a1) else none
theorem atriumref04_Mac.calls (a0 a1 : ByteArray) (r : ByteArray) (w : World) (h : atriumref04_Mac.f a0 a1 = some r) :
    Calls Try.prog 20 #[.string a0, .string a1] w fun e w' => e = .returned (.string r) ∧ Below w.heap.size w w' := by
  unfold atriumref04_Mac.f at h
  split at h
  · rename_i hs
    injection h with h
    subst h
    exact Sha.ref_mac_any a0 a1 w hs.1 hs.2
  · cases h
def atriumlaw04_awake.f : Option Bool := some true
theorem atriumlaw04_awake.calls (r : Bool) (w : World) (h : atriumlaw04_awake.f = some r) :
    Calls Try.prog 11 #[] w fun e w' => e = .returned (.bool r) ∧ Below w.heap.size w w' := by
  obtain rfl := Option.some.inj h
  exact Sha.awake_any w
end Go.Proofs.Ytililaifppblhaa
