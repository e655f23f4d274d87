/- The structs of some laws' arguments, as plain structures, their kinds, and what reads them. Written by mkty.py, a program of this session. -/
import Derived.Test.YtililaifppblhaaWWords
import Derived.Test.YtililaifppblhaaProg
namespace Go.Proofs.Ytililaifppblhaa.Ty
open Go Go.RowKit Go.Proofs.YtililaifppblhaaW.PrintWords
set_option linter.unusedVariables false
/-! #### atrium/atriumlaw04.Piece -/
structure S30 where
  f0 : ByteArray
  f1 : Bool
  f2 : Bool
def z30 : S30 := ⟨(⟨#[]⟩ : ByteArray), false, false⟩
def k30 : Kd S30 := Kd.iso (Kd.pair Kd.string (Kd.pair Kd.bool Kd.bool)) (fun x : S30 => (x.f0, x.f1, x.f2))
theorem k30_open {w : World} {x : S30} {cs : List Value} (h : k30.K w x cs) : cs = [.string x.f0, .bool x.f1, .bool x.f2] := by
  obtain ⟨p0, q0, rfl, rfl, ⟨p1, q1, rfl, rfl, rfl⟩⟩ := h
  rfl
def rd_T30 (xs : List S30) (i : Int) : S30 := xs.getD i.toNat z30
theorem at_T30 {w : World} {A : Option Addr} {n : Nat} {xs : List S30} (h : Kd.C k30 w A n xs) (i : Int) (h0 : 0 ≤ i) (h1 : i < n) : ∃ (ad : Addr), A = some ad ∧ w.cell? (ad.add (i.toNat * 3)) = some (.string (rd_T30 xs i).f0) ∧ w.cell? ⟨(ad.add (i.toNat * 3)).block, (ad.add (i.toNat * 3)).off + 1, none⟩ = some (.bool (rd_T30 xs i).f1) ∧ w.cell? ⟨(ad.add (i.toNat * 3)).block, (ad.add (i.toNat * 3)).off + 2, none⟩ = some (.bool (rd_T30 xs i).f2) := by
  obtain ⟨ad, c, e, _, hK, hc0⟩ := Kd.C_get h z30 i h0 h1
  have hc : ∀ j u, c[j]? = some u → w.cell? (ad.add (i.toNat * 3 + j)) = some u := hc0
  obtain rfl := k30_open hK
  exact ⟨ad, e, hc 0 _ rfl, by rw [← add_field _ _ 1 (by omega)]; exact hc 1 _ rfl, by rw [← add_field _ _ 2 (by omega)]; exact hc 2 _ rfl⟩
end Go.Proofs.Ytililaifppblhaa.Ty
