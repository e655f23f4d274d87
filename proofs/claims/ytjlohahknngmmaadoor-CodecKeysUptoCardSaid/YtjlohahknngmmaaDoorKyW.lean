/- Walk of the law of keys and back. -/
import Derived.Test.YtjlohahknngmmaaDoorKyM
import Derived.Test.YtjlohahknngmmaaDoorKyO
namespace Go.Proofs.YtjlohahknngmmaaDoor.Ky
open Go Go.RowKit Go.Proofs.YtjlohahknngmmaaDoor Go.Proofs.YtjlohahknngmmaaDoor.PK Go.Proofs.YtjlohahknngmmaaDoorW.PrintWords
theorem keys_walk (A : Option Addr) (c : Nat) (l : List S51) (W : World)
    (hC : Kd.C k51 W A l.length l) (hL : l.length ≤ c) (ho : l.length * 32 ≤ 140737488351232 ∧ ∀ x ∈ l, x.f0.size ≤ 140737488351232 ∧ (Lit.int .u64 x.f1).wf = true ∧ True)
    (hb : Opn.lwt (fun x : S51 => ((x.f0.size + 1) + (1 + 1)) + 1) l + 1 ≤ 1048576) :
    Calls Tryd.prog 5 #[.slice A l.length c] W fun e w' => e = .returned (.bool true) ∧ Below W.heap.size W w' := by
  have h1 := lwt_szs l
  obtain ⟨k, hk⟩ := (keys_law l (by omega) (by omega) (okL_of ho.2)).rounds
  exact atriumlaw02_CodecKeys.calls k A c l true W hC hL hk
end Go.Proofs.YtjlohahknngmmaaDoor.Ky
