/- HttpPrints: the law, and its walk with a request as one argument. -/
import Derived.Test.YtckbcnmcnhahhaaDoorHpPs
import Derived.Test.YtckbcnmcnhahhaaDoorOpen
namespace Go.Proofs.YtckbcnmcnhahhaaDoor.PP
open Go Go.RowKit Go.Proofs.YtckbcnmcnhahhaaDoor Go.Proofs.YtckbcnmcnhahhaaDoorW.PrintWords Go.Proofs.YtckbcnmcnhahhaaDoorW.PrintLast Go.Proofs.YtckbcnmcnhahhaaDoor.Pure
set_option linter.unusedVariables false
set_option linter.unusedSimpArgs false

structure S25 where
  f0 : ByteArray
  f1 : ByteArray
  f2 : (List S50)
  f3 : ByteArray
  f4 : Bool
def k25 : Kd S25 := Kd.iso (Kd.pair Kd.string (Kd.pair Kd.string (Kd.pair (Kd.slice 50 k50) (Kd.pair Kd.string Kd.bool)))) (fun x : S25 => (x.f0, x.f1, x.f2, x.f3, x.f4))
theorem kReq_open {w : World} {x : S25} {cs : List Value} (h : k25.K w x cs) : ∃ (A2 : Option Addr) (c2 : Nat), cs = [.string x.f0, .string x.f1, .slice A2 x.f2.length c2, .string x.f3, .bool x.f4] ∧ x.f2.length ≤ c2 ∧ Kd.C k50 w A2 x.f2.length x.f2 := by
  obtain ⟨p0, q0, rfl, rfl, ⟨p1, q1, rfl, rfl, ⟨p2, q2, rfl, ⟨A2, c2, rfl, l2, C2⟩, ⟨p3, q3, rfl, rfl, rfl⟩⟩⟩⟩ := h
  exact ⟨A2, c2, rfl, l2, C2⟩

theorem upB_wt (m t : ByteArray) (l : List S50) : (upB m t l).length ≤ m.size + t.size + 12 + 4 * Opn.lwt (fun x : S50 => ((x.f0.size + 1) + ((x.f1.size + 1))) + 1) l := by
  unfold upB
  rw [List.length_append, headB_len]
  have : ∀ l : List S50, (l.flatMap fieldB).length ≤ 4 * Opn.lwt (fun x : S50 => ((x.f0.size + 1) + ((x.f1.size + 1))) + 1) l := by
    intro l
    induction l with
    | nil => simp [Opn.lwt]
    | cons f l ih =>
      rw [List.flatMap_cons, List.length_append, fieldB_len]
      unfold Opn.lwt
      omega
  have := this l
  omega
theorem lwt_len (l : List S50) : l.length ≤ Opn.lwt (fun x : S50 => ((x.f0.size + 1) + ((x.f1.size + 1))) + 1) l := by
  induction l with
  | nil => simp [Opn.lwt]
  | cons x l ih =>
    unfold Opn.lwt
    rw [List.length_cons]; omega
theorem prints_ev (m t b bh : ByteArray) (c : Bool) (l : List S50) (hz : (bytesL m t l b).length ≤ 1073741824) (hl : l.length < 1073741824) (hf : ∀ f ∈ l, f.f0.size ≤ 140737488351232 ∧ f.f1.size ≤ 140737488351232) (hb : bh.size ≤ 1073741824) :
    Ev (fun k => atriumlaw17_HttpPrints.f k m t l b c bh) true := by
  have h1 := print_ev m t b c l hz (by omega) hf
  have h2 := rprint_ev m t b c l hz (by omega) hf
  have h3 := check_ev m t b c l hz (by omega) hf
  have h4 := rcheck_ev m t b c l hz (by omega) hf
  have h5 := same_ev m t b c l (by omega)
  have hbs : (⟨(bytesL m t l b).toArray⟩ : ByteArray).size = (bytesL m t l b).length := List.size_toArray
  unfold atriumlaw17_HttpPrints.f
  refine evBindc rfl (evIfPos (by rw [List.length_nil]; omega) (evBindc rfl ?_))
  rw [List.nil_append]
  refine Ev.bind h1 (Ev.bind h2 (Ev.bind lives_ev (evIfPos rfl (evIfPos rfl (evIfPos rfl (Ev.bind h3 (Ev.bind h4 (evIfPos rfl (Ev.bind h5 ?_)))))))))
  refine Ev.step (fun k => by simp only [atriumlaw17_HttpPrints.j0]; exact rfl) (evIfNeg (by decide) ?_)
  by_cases h : checkP m t b c l = 0
  · rw [show printP m t b c l = (⟨(bytesL m t l b).toArray⟩, 0) by unfold printP; rw [if_pos h]]
    refine evIfPos rfl (evIfPos (by show (⟨(bytesL m t l b).toArray⟩ : ByteArray).size + bh.size ≤ 9223372036854775807; omega) ?_)
    have hp := parse_ev ((⟨(bytesL m t l b).toArray⟩ : ByteArray) ++ bh) (by rw [ByteArray.size_append]; omega)
    rw [parse_back m t b bh c l h] at hp
    exact Ev.bind hp (evIfPos rfl (evIfPos rfl (Ev.bind h5 (Ev.now _))))
  · rw [show printP m t b c l = (⟨#[]⟩, checkP m t b c l) by unfold printP; rw [if_neg h]]
    exact evIfNeg h (Ev.now _)
theorem prints_walk (cs : Array Value) (y : S25) (bh : ByteArray) (W : World) (hK : k25.K W y cs.toList)
    (ho : y.f0.size ≤ 140737488351232 ∧ y.f1.size ≤ 140737488351232 ∧ (y.f2.length * 32 ≤ 140737488351232 ∧ ∀ x ∈ y.f2, x.f0.size ≤ 140737488351232 ∧ x.f1.size ≤ 140737488351232) ∧ y.f3.size ≤ 140737488351232 ∧ True)
    (hn : bh.size ≤ 140737488351232)
    (hb : (((y.f0.size + 1) + ((y.f1.size + 1) + ((Opn.lwt (fun x : S50 => ((x.f0.size + 1) + ((x.f1.size + 1))) + 1) y.f2 + 1) + ((y.f3.size + 1) + (1))))) + 1) + (bh.size + 1) ≤ 1048576) (hm_ : MX W) :
    Calls Tryd.prog 6 #[.agg cs, .string bh] W fun e w' => e = .returned (.bool true) ∧ Go.RowKit.Below W.heap.size W w' := by
  obtain ⟨A, c, hcs, hc, hC⟩ := kReq_open hK
  obtain rfl : cs = #[.string y.f0, .string y.f1, .slice A y.f2.length c, .string y.f3, .bool y.f4] := by rw [← Array.toList_inj, hcs]
  have h1 := upB_wt y.f0 y.f1 y.f2
  have h2 := lwt_len y.f2
  obtain ⟨k, hk⟩ := (prints_ev y.f0 y.f1 y.f3 bh y.f4 y.f2 (by rw [bytesL_len]; omega) (by omega) ho.2.2.1.2 (by omega)).rounds
  exact atriumlaw17_HttpPrints.calls k y.f0 y.f1 A c y.f2 y.f3 y.f4 bh true W hC hc hk hm_
end Go.Proofs.YtckbcnmcnhahhaaDoor.PP
