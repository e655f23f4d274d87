/- The runes of a text and their sizes, as the model's own range tells them: plain lists, no program. -/
import Derived.Laws.RangeAny
namespace Go.Proofs.YtckbcnmcnhahhaaDoor
open Go

/-- A fact on every byte, asked of each by the kernel. -/
theorem byte_all (p : UInt8 → Bool) (h : (List.range 256).all (fun n => p (UInt8.ofNat n)) = true) (c : UInt8) : p c = true := by
  have h1 := List.all_eq_true.1 h c.toNat (List.mem_range.2 c.toNat_lt)
  rwa [UInt8.ofNat_toNat] at h1

end Go.Proofs.YtckbcnmcnhahhaaDoor
