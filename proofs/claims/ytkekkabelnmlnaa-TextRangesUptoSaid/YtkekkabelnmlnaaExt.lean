/- The hand-walked functions of the text package, in the form in which a printed caller takes a callee: a plain function f and its contract calls. -/
import Derived.Test.YtkekkabelnmlnaaTxD
namespace Go.Proofs.Ytkekkabelnmlnaa
open Go Go.RowKit Go.Proofs.YtkekkabelnmlnaaW.PrintWords
set_option linter.unusedVariables false

def strings_IndexByte.f (a0 : ByteArray) (a1 : Int) : Option Int := some (Lib.indexByte a0.data.toList a1.toNat.toUInt8)
theorem strings_IndexByte.calls (a0 : ByteArray) (a1 : Int) (r : Int) (w : World) (h : strings_IndexByte.f a0 a1 = some r) :
    Calls Try.prog 31 #[.string a0, .int .u8 a1] w fun e w' => e = .returned (.int .i64 r) ∧ Drawn0 w w' :=
  (Try.strings_IndexByte a0 a1 w).mono fun e w' ⟨h1, h2⟩ => ⟨by rw [h1]; simp only [strings_IndexByte.f, Option.some.injEq] at h; rw [h], by rw [h2]; exact Drawn0.refl _⟩

def text_Decode.f (a0 : ByteArray) : Option (Int × Int) := some (if a0.size = 0 then 0 else ((Utf8.decode a0 0).1 : Int), if a0.size = 0 then 0 else ((Utf8.decode a0 0).2 : Int))
theorem text_Decode.calls (a0 : ByteArray) (r1 : Int) (r2 : Int) (w : World) (h : text_Decode.f a0 = some (r1, r2)) :
    Calls Try.prog 16 #[.string a0] w fun e w' => e = .returned (.tuple #[.int .i32 r1, .int .i64 r2]) ∧ Below w.heap.size w w' := by
  simp only [text_Decode.f, Option.some.injEq, Prod.mk.injEq] at h
  obtain ⟨rfl, rfl⟩ := h
  exact decode_any a0 w

def text_Count.f (a0 : ByteArray) : Option Int := if a0.size ≤ 9223372036854775807 then some ((rn a0).length : Int) else none
theorem text_Count.calls (a0 : ByteArray) (r : Int) (w : World) (h : text_Count.f a0 = some r) :
    Calls Try.prog 17 #[.string a0] w fun e w' => e = .returned (.int .i64 r) ∧ Below w.heap.size w w' := by
  unfold text_Count.f at h
  split at h
  · rename_i hs
    injection h with h
    subst h
    exact count_any a0 w hs
  · cases h

def text_Digits.f (a0 : ByteArray) (a1 : Int) : Option (Int × Int) := some (digitsRes a0 a1)
theorem text_Digits.calls (a0 : ByteArray) (a1 : Int) (r1 : Int) (r2 : Int) (w : World) (h : text_Digits.f a0 a1 = some (r1, r2)) :
    Calls Try.prog 9 #[.string a0, .int .i64 a1] w fun e w' => e = .returned (.tuple #[.int .i64 r1, .int .i64 r2]) ∧ Below w.heap.size w w' := by
  simp only [text_Digits.f, Option.some.injEq] at h
  refine (digits_any a0 a1 w).mono fun e w' ⟨h1, h2⟩ => ⟨?_, h2⟩
  unfold RetPair at h1
  rw [h] at h1
  exact h1

def text_Encode.f (a0 : Int) : Option (ByteArray × Int) := some (if Lib.validRune a0 = true then (Utf8.encode a0, 0) else (⟨#[]⟩, 150))
theorem text_Encode.calls (a0 : Int) (r1 : ByteArray) (r2 : Int) (w : World) (h : text_Encode.f a0 = some (r1, r2)) :
    Calls Try.prog 27 #[.int .i32 a0] w fun e w' => e = .returned (.tuple #[.string r1, .int .i64 r2]) ∧ Drawn0 w w' := by
  simp only [text_Encode.f, Option.some.injEq] at h
  refine (encode_any a0 w).mono fun e w' ⟨h1, h2⟩ => ⟨?_, by rw [h2]; exact Drawn0.refl _⟩
  rw [h1]
  split at h <;> (injection h with ha hb; subst ha; subst hb; simp_all)

def runeInts (s : ByteArray) : List Int := (rn s).map fun x => (x.1 : Int)
def text_Runes.f (a0 : ByteArray) : Option (List Int) := if a0.size ≤ 9223372036854775807 ∧ (rn a0).length * 4 ≤ 140737488355328 then some (runeInts a0) else none
theorem text_Runes.calls (a0 : ByteArray) (r : List Int) (w : World) (h : text_Runes.f a0 = some r) :
    Calls Try.prog 20 #[.string a0] w fun e w' => ∃ v0_ : Value, e = .returned (v0_) ∧ Kd.R (Kd.int .i32) 21 w' w.heap.size (fun _ => True) v0_ r ∧ Below w.heap.size w w' := by
  unfold text_Runes.f at h
  split at h
  · rename_i hs
    injection h with h
    subst h
    refine (runes_any a0 w hs.1 hs.2).mono fun e w' ⟨v, h1, h2, h3⟩ => ⟨v, h1, ?_, h3⟩
    refine Kd.R_of_own (enc := Value.int .i32) ?_ (fun _ _ => trivial)
    have e1 : encs (Value.int .i32) (runeInts a0) = runeCells (rn a0) := by simp [encs, runeInts, runeCells]
    rw [e1]
    simpa [runeInts] using h2
  · cases h

def text_Valid.f (a0 : ByteArray) : Option Bool := if a0.size ≤ 9223372036854775807 then some ((rn a0).all okRune) else none
theorem text_Valid.calls (a0 : ByteArray) (r : Bool) (w : World) (h : text_Valid.f a0 = some r) :
    Calls Try.prog 22 #[.string a0] w fun e w' => e = .returned (.bool r) ∧ Below w.heap.size w w' := by
  unfold text_Valid.f at h
  split at h
  · rename_i hs
    injection h with h
    subst h
    exact valid_any a0 w hs
  · cases h

def text_Text.f (l0 : List Int) : Option (ByteArray × Int) := if l0.length * 4 ≤ 140737488355328 then some (textRes l0) else none
theorem text_Text.calls (A0 : Option Addr) (c0 : Nat) (l0 : List Int) (r1 : ByteArray) (r2 : Int) (w : World) (hr0 : Kd.C (Kd.int .i32) w A0 l0.length l0) (hc0 : l0.length ≤ c0) (h : text_Text.f l0 = some (r1, r2)) :
    Calls Try.prog 25 #[.slice A0 l0.length c0] w fun e w' => e = .returned (.tuple #[.string r1, .int .i64 r2]) ∧ Below w.heap.size w w' := by
  unfold text_Text.f at h
  split at h
  · rename_i hs
    injection h with h
    refine (text_any A0 c0 l0 w hr0 hc0 hs).mono fun e w' ⟨h1, h2⟩ => ⟨?_, h2⟩
    unfold RetText at h1
    rw [h] at h1
    exact h1
  · cases h
end Go.Proofs.Ytkekkabelnmlnaa
