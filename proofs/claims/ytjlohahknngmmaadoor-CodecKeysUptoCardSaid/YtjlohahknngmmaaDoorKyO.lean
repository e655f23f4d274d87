/- Walks of the laws of keys: the order, the ranges. -/
import Derived.Test.YtjlohahknngmmaaDoorKyL
import Derived.Test.YtjlohahknngmmaaDoorOpen
namespace Go.Proofs.YtjlohahknngmmaaDoor.Ky
open Go Go.RowKit Go.Proofs.YtjlohahknngmmaaDoor Go.Proofs.YtjlohahknngmmaaDoor.PK Go.Proofs.YtjlohahknngmmaaDoorW.PrintWords
def wtS (x : S51) : Nat := ((x.f0.size + 1) + (1 + 1)) + 1
theorem lwt_szs : ∀ l : List S51, szs l + l.length ≤ Opn.lwt (fun x : S51 => ((x.f0.size + 1) + (1 + 1)) + 1) l
  | [] => Nat.le_refl _
  | x :: l => by
    have := lwt_szs l
    show x.f0.size + szs l + (l.length + 1) ≤ (((x.f0.size + 1) + (1 + 1)) + 1) + Opn.lwt _ l
    omega
theorem okL_of {l : List S51} (h : ∀ x ∈ l, x.f0.size ≤ 140737488351232 ∧ (Lit.int .u64 x.f1).wf = true ∧ True) : okL l = true :=
  okL_all.2 fun x hx => by
    have h1 := (h x hx).2.1
    have e1 : 0 ≤ x.f1 ∧ x.f1 ≤ 18446744073709551615 := by simpa [Lit.wf, IntKind.min, IntKind.max, IntKind.signed, IntKind.bits] using h1
    exact e1
theorem order_walk (A : Option Addr) (c : Nat) (l : List S51) (A' : Option Addr) (c' : Nat) (l' : List S51) (W : World)
    (hC : Kd.C k51 W A l.length l) (hL : l.length ≤ c) (ho : l.length * 32 ≤ 140737488351232 ∧ ∀ x ∈ l, x.f0.size ≤ 140737488351232 ∧ (Lit.int .u64 x.f1).wf = true ∧ True)
    (hC' : Kd.C k51 W A' l'.length l') (hL' : l'.length ≤ c') (ho' : l'.length * 32 ≤ 140737488351232 ∧ ∀ x ∈ l', x.f0.size ≤ 140737488351232 ∧ (Lit.int .u64 x.f1).wf = true ∧ True)
    (hb : (Opn.lwt (fun x : S51 => ((x.f0.size + 1) + (1 + 1)) + 1) l + 1) + (Opn.lwt (fun x : S51 => ((x.f0.size + 1) + (1 + 1)) + 1) l' + 1) ≤ 1048576) :
    Calls Tryd.prog 3 #[.slice A l.length c, .slice A' l'.length c'] W fun e w' => e = .returned (.bool true) ∧ Below W.heap.size W w' := by
  have h1 := lwt_szs l
  have h2 := lwt_szs l'
  obtain ⟨k, hk⟩ := (order_law l l' (by omega) (by omega) (by omega) (okL_of ho.2) (okL_of ho'.2)).rounds
  exact atriumlaw02_CodecOrder.calls k A c l A' c' l' true W hC hL hC' hL' hk
theorem ranges_walk (A : Option Addr) (c : Nat) (l : List S51) (A' : Option Addr) (c' : Nat) (l' : List S51) (W : World)
    (hC : Kd.C k51 W A l.length l) (hL : l.length ≤ c) (ho : l.length * 32 ≤ 140737488351232 ∧ ∀ x ∈ l, x.f0.size ≤ 140737488351232 ∧ (Lit.int .u64 x.f1).wf = true ∧ True)
    (hC' : Kd.C k51 W A' l'.length l') (hL' : l'.length ≤ c') (ho' : l'.length * 32 ≤ 140737488351232 ∧ ∀ x ∈ l', x.f0.size ≤ 140737488351232 ∧ (Lit.int .u64 x.f1).wf = true ∧ True)
    (hb : (Opn.lwt (fun x : S51 => ((x.f0.size + 1) + (1 + 1)) + 1) l + 1) + (Opn.lwt (fun x : S51 => ((x.f0.size + 1) + (1 + 1)) + 1) l' + 1) ≤ 1048576) :
    Calls Tryd.prog 4 #[.slice A l.length c, .slice A' l'.length c'] W fun e w' => e = .returned (.bool true) ∧ Below W.heap.size W w' := by
  have h1 := lwt_szs l
  have h2 := lwt_szs l'
  obtain ⟨k, hk⟩ := (range_law l l' (by omega) (by omega) (by omega) (by omega) (okL_of ho.2) (okL_of ho'.2)).rounds
  exact atriumlaw02_CodecRanges.calls k A c l A' c' l' true W hC hL hC' hL' hk
end Go.Proofs.YtjlohahknngmmaaDoor.Ky
