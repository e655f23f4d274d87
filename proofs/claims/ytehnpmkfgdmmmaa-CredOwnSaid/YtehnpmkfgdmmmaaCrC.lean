/- Walk of cred's Token; callees of cred in the form of printed ones. -/
import Derived.Test.YtehnpmkfgdmmmaaCrA
import Derived.Maps.Own
import Derived.Maps.OwnOps
import Derived.Maps.OwnSet
import Derived.Maps.Views
import Derived.StringKeys
import Derived.Test.YtehnpmkfgdmmmaaCdW1
import Derived.Test.YtehnpmkfgdmmmaaMcD
import Derived.Test.YtehnpmkfgdmmmaaTxL
namespace Go.Proofs.Ytehnpmkfgdmmmaa
open Go Go.RowKit Go.Proofs.YtehnpmkfgdmmmaaW.PrintWords Go.Proofs.YtehnpmkfgdmmmaaW.PrintMore Go.Proofs.YtehnpmkfgdmmmaaW.PrintLast
set_option linter.unusedVariables false
set_option linter.unusedSimpArgs false

/-- A Writer stands where nothing that was there has turned. -/
theorem Wr.below {B b : Nat} {most : Int} {over : Bool} {v : Value} {l : List Int} {w w' : World} (h : Wr B b most over v l w) (hb : Below w.heap.size w w') : Wr B b most over v l w' := by
  have hne := h.own_ne
  obtain ⟨h1, h2, h3⟩ := h
  exact ⟨(hb.block b (blk_lt h1)).trans h1, h2.kept (grown_of_below hb none) (by cases hv : v.ownBlock <;> simp), h3⟩
theorem puts_some {B b : Nat} {most : Int} {over : Bool} {v : Value} {l : List Int} {w : World} (h : Wr B b most over v l w) (xs : List Int) (hm : 0 ≤ most) (hm2 : most ≤ 9223372036854775807) (hl : l.length + xs.length ≤ 140737488355328) (hB : B ≤ w.heap.size) :
    Puts (.pointer (some ⟨b, 0, none⟩)) xs w (fun w2 => WPost B b most v (putP most over l xs) w w2) := by
  intro A n c w1 hx hb
  refine (put_some B b most over v l A n c xs w1 (h.below hb) hx hm hm2 hl (Nat.le_trans hB hb.size)).mono ?_
  rintro e w2 ⟨rfl, v', h1, h2, h3, h4⟩
  refine ⟨rfl, v', h1, (hb.mono hB).trans h2, (KeepBut.of_below hb b _).trans h3 (.inl rfl), ?_⟩
  rcases h4 with h4 | ⟨q, h4, h5⟩
  · exact .inl h4
  · exact .inr ⟨q, h4, Nat.le_trans hb.size h5⟩
/-- The bytes of a token. -/
def tokB (n d : Int) : ByteArray := strOfNums (nb n 8 ++ nb d 8)
theorem tokB_size (n d : Int) : (tokB n d).size = 16 := by
  show ((nb n 8 ++ nb d 8).map _).toArray.size = 16
  rw [List.size_toArray, List.length_map, List.length_append, nb_length, nb_length]
def tokT (n d : Int) : ByteArray := ⟨(Sha.letB Sha.letters (Sha.b64L (tokB n d).data.toList)).toArray⟩
set_option maxHeartbeats 2000000 in
set_option maxRecDepth 100000 in
theorem token_any (n d : Int) (w : World) (h0 : 0 ≤ n) (h1 : n ≤ 18446744073709551615) (h2 : 0 ≤ d) (h3 : d ≤ 18446744073709551615) :
    Calls Try.prog 19 #[.int .u64 n, .int .u64 d] w fun e w' => e = .returned (.string (tokT n d)) ∧ Below w.heap.size w w' := by
  have hup := Try.underlying52
  go_enter Try.func19, Try.ntmps19
  go_wp2_with fail
  refine (newWriter_any 16 w.heap.size _ (Nat.le_refl _)).mono ?_
  rintro e w1 ⟨b, rfl, hW, hB1, hb⟩
  have HW : Aside0 (Wr w.heap.size b 16 false (.slice none 0 0) [] w1) := ⟨hW⟩
  have HB1 := Aside0.mk hB1
  clear hW hB1
  go_wp2_with fail
  refine (u64_put _ n _ h0 h1 _ (puts_some HW.out (nb n 8) (by decide) (by decide) (by rw [nb_length]; decide) HB1.out.size)).mono ?_
  rintro e w3 ⟨rfl, v3, hW3, hB3, hK3, ha3⟩
  have hp : putP 16 false [] (nb n 8) = (false, nb n 8) := by unfold putP; rw [if_neg (by decide), nb_length, if_neg (by decide)]; rfl
  rw [hp] at hW3
  have HW3 := Aside0.mk hW3
  have HB3 := Aside0.mk (HB1.out.trans hB3)
  clear hW3 hB3 hK3 ha3 HW HB1 hp
  go_wp2_with fail
  refine (u64_put _ d _ h2 h3 _ (puts_some HW3.out (nb d 8) (by decide) (by decide) (by rw [nb_length, nb_length]; decide) HB3.out.size)).mono ?_
  rintro e w4 ⟨rfl, v4, hW4, hB4, hK4, ha4⟩
  have hp : putP 16 false (nb n 8) (nb d 8) = (false, nb n 8 ++ nb d 8) := by unfold putP; rw [if_neg (by decide), nb_length, nb_length, if_neg (by decide)]
  rw [hp] at hW4
  have HW4 := Aside0.mk hW4
  have HB4 := Aside0.mk (HB3.out.trans hB4)
  clear hW4 hB4 hK4 ha4 HW3 HB3 hp
  go_wp2_with fail
  refine (done_some _ _ _ _ _ _ _ HW4.out).mono ?_
  rintro e w5 ⟨rfl, ⟨n5, rfl⟩⟩
  rw [show (doneP false (nb n 8 ++ nb d 8)) = (tokB n d, 0) from rfl]
  have HB5 := Aside0.mk (pw_below_drewN HB4.out n5)
  clear HB4 HW4
  generalize w4.drewN n5 = w5 at *
  go_wp2_with fail
  refine (Sha.b64_any (tokB n d) _ (by rw [tokB_size]; decide)).mono ?_
  rintro e w6 ⟨rfl, hb6⟩
  have HB6 := Aside0.mk (HB5.out.trans (hb6.mono HB5.out.size))
  clear hb6
  go_wp2
  go_ret
  exact ⟨rfl, HB6.out⟩
/-! ### As the print has its functions -/
def cred_Token.f (a0 a1 : Int) : Option ByteArray := if 0 ≤ a0 ∧ a0 ≤ 18446744073709551615 ∧ 0 ≤ a1 ∧ a1 ≤ 18446744073709551615 then some (tokT a0 a1) else none
theorem cred_Token.calls (a0 a1 : Int) (r : ByteArray) (w : World) (h : cred_Token.f a0 a1 = some r) :
    Calls Try.prog 19 #[.int .u64 a0, .int .u64 a1] w fun e w' => e = .returned (.string r) ∧ Below w.heap.size w w' := by
  unfold cred_Token.f at h
  split at h
  · rename_i hs
    injection h with h
    subst h
    exact token_any a0 a1 w hs.1 hs.2.1 hs.2.2.1 hs.2.2.2
  · cases h
def text_Lower.f (a0 : ByteArray) : Option ByteArray := if a0.size ≤ 9223372036854775807 then some (lowS a0) else none
theorem text_Lower.calls (a0 : ByteArray) (r : ByteArray) (w : World) (h : text_Lower.f a0 = some r) :
    Calls Try.prog 31 #[.string a0] w fun e w' => e = .returned (.string r) ∧ Below w.heap.size w w' := by
  unfold text_Lower.f at h
  split at h
  · rename_i hs
    injection h with h
    subst h
    exact lower_any a0 w hs
  · cases h
def atriumref15_Lower.f (a0 : ByteArray) : Option ByteArray := if a0.size ≤ 9223372036854775807 then some (lowS a0) else none
theorem atriumref15_Lower.calls (a0 : ByteArray) (r : ByteArray) (w : World) (h : atriumref15_Lower.f a0 = some r) :
    Calls Try.prog 32 #[.string a0] w fun e w' => e = .returned (.string r) ∧ Below w.heap.size w w' := by
  unfold atriumref15_Lower.f at h
  split at h
  · rename_i hs
    injection h with h
    subst h
    exact ref_lower_any a0 w hs
  · cases h
def stringslite_Cut.f (a0 a1 : ByteArray) : Option (ByteArray × ByteArray × Bool) := if a1 = ⟨#[32]⟩ ∧ a0.size ≤ 9223372036854775807 then some (cutB a0 32) else none
theorem stringslite_Cut.calls (a0 a1 : ByteArray) (r1 r2 : ByteArray) (r3 : Bool) (w : World) (h : stringslite_Cut.f a0 a1 = some (r1, r2, r3)) :
    Calls Try.prog 49 #[.string a0, .string a1] w fun e w' => e = .returned (.tuple #[.string r1, .string r2, .bool r3]) ∧ Drawn0 w w' := by
  unfold stringslite_Cut.f at h
  split at h
  · rename_i hs
    obtain ⟨rfl, hs⟩ := hs
    injection h with h
    have := cut1_any a0 32 w hs
    rw [h] at this
    exact this
  · cases h
end Go.Proofs.Ytehnpmkfgdmmmaa
