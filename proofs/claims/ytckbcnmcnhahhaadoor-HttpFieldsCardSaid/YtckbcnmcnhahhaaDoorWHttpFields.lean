/- HttpFields: its plain law and its walk with a request as one argument. -/
import Derived.Test.YtckbcnmcnhahhaaDoorPQx5
namespace Go.Proofs.YtckbcnmcnhahhaaDoor.PQ
open Go Go.RowKit Go.Proofs.YtckbcnmcnhahhaaDoor Go.Proofs.YtckbcnmcnhahhaaDoorW.PrintWords Go.Proofs.YtckbcnmcnhahhaaDoorW.PrintLast
set_option linter.unusedVariables false
set_option linter.unusedSimpArgs false

structure S25 where
  f0 : ByteArray
  f1 : ByteArray
  f2 : (List S50)
  f3 : ByteArray
  f4 : Bool
def k25 : Kd S25 := Kd.iso (Kd.pair Kd.string (Kd.pair Kd.string (Kd.pair (Kd.slice 50 k50) (Kd.pair Kd.string Kd.bool)))) (fun x : S25 => (x.f0, x.f1, x.f2, x.f3, x.f4))
theorem kReq_open {w : World} {x : S25} {cs : List Value} (h : k25.K w x cs) : ∃ (A2 : Option Addr) (c2 : Nat), cs = [.string x.f0, .string x.f1, .slice A2 x.f2.length c2, .string x.f3, .bool x.f4] ∧ x.f2.length ≤ c2 ∧ Kd.C k50 w A2 x.f2.length x.f2 := by
  obtain ⟨p0, q0, rfl, rfl, ⟨p1, q1, rfl, rfl, ⟨p2, q2, rfl, ⟨A2, c2, rfl, l2, C2⟩, ⟨p3, q3, rfl, rfl, rfl⟩⟩⟩⟩ := h
  exact ⟨A2, c2, rfl, l2, C2⟩

/-! ### Great letters -/
def upI (n : Int) : Int := if 97 ≤ n ∧ n ≤ 122 then (n - 32) % 256 else n
def upName (s : ByteArray) : ByteArray := strOfNums (s.data.toList.map fun c => upI (c.toNat : Int))
theorem low_up : ∀ c : UInt8, lowB (UInt8.ofNat (upI (c.toNat : Int)).toNat) = lowB c := fun c =>
  of_decide_eq_true (byte_all (fun c => decide (lowB (UInt8.ofNat (upI (c.toNat : Int)).toNat) = lowB c)) (by decide +kernel) c)
theorem lowS_up (s : ByteArray) : lowS (upName s) = lowS s := by
  unfold lowS upName strOfNums
  congr 2
  show ((((s.data.toList.map fun c => upI (c.toNat : Int)).map fun n => UInt8.ofNat n.toNat).toArray).toList.map lowB) = _
  rw [List.toList_toArray, List.map_map, List.map_map]
  exact List.map_congr_left fun c _ => low_up c
theorem upName_size (s : ByteArray) : (upName s).size = s.size := by
  show (((s.data.toList.map fun c => upI (c.toNat : Int)).map fun n => UInt8.ofNat n.toNat).toArray).size = s.data.size
  rw [List.size_toArray, List.length_map, List.length_map, Array.length_toList]
theorem same_texts (l : List ByteArray) (hl : l.length < 9223372036854775807) (d : Nat) : ∀ i, i + d = l.length → Ev (fun k => atriumlaw17_sameTexts.l0 k l l (i : Int)) true := by
  induction d with
  | zero =>
    intro i hi
    exact Ev.step (fun k => by simp only [atriumlaw17_sameTexts.l0]; exact rfl) (evIfNeg (by omega) (Ev.now _))
  | succ d ih =>
    intro i hi
    refine Ev.step (fun k => by simp only [atriumlaw17_sameTexts.l0]; exact rfl) (evIfPos (by omega) (evIfPos (by omega) (evIfPos (by omega) (evIfPos (show (rdOf ByteArray.empty l (i : Int)).toList = (rdOf ByteArray.empty l (i : Int)).toList from rfl) ?_))))
    rw [wrap64_succ (by omega)]
    exact ih (i + 1) (by omega)
theorem sameTexts_ev (l : List ByteArray) (hl : l.length < 9223372036854775807) : Ev (fun k => atriumlaw17_sameTexts.f k l l) true :=
  evIfPos rfl (same_texts l hl l.length 0 (by omega))
theorem lives_ev : Ev (fun k => atriumlaw17_lives.f k) true := Ev.of atriumlaw17_lives.mono (k := 3) (by decide +kernel)

/-! ### The law -/
theorem fields_loop (f0 f1 f3 : ByteArray) (f4 : Bool) (l : List S50) (nm : ByteArray) (hn : nm.size ≤ 140737488351232) (hl : l.length < 8796093022208) (hf : ∀ f ∈ l, f.f0.size ≤ 9223372036854775807) (d : Nat) :
    ∀ (i : Nat) (x8 : List Int), i + d = nm.size → x8 = ((nm.data.toList.take i).map fun c => upI (c.toNat : Int)) ++ List.replicate d 0 → Ev (fun k => atriumlaw17_HttpFields.l0 k nm (allP l nm) x8 (i : Int) f0 f1 l f3 f4) true := by
  have hs : nm.data.toList.length = nm.size := Array.length_toList
  induction d with
  | zero =>
    intro i x8 hi hx
    refine Ev.step (fun k => by simp only [atriumlaw17_HttpFields.l0]; exact rfl) (evIfNeg (by omega) ?_)
    rw [List.take_of_length_le (by omega), List.replicate_zero, List.append_nil] at hx
    have he : strOfNums x8 = upName nm := by rw [hx]; rfl
    rw [he]
    have hall : allP l (upName nm) = allP l nm := by unfold allP; rw [lowS_up]
    have h1 := all_ev f0 f1 f3 f4 l (upName nm) (by rw [upName_size]; omega) hl hf
    rw [hall] at h1
    refine Ev.bind h1 (Ev.bind (sameTexts_ev _ ?_) (Ev.now _))
    have := allP_len l nm
    omega
  | succ d ih =>
    intro i x8 hi hx
    have hlen : x8.length = nm.size := by rw [hx, List.length_append, List.length_map, List.length_take, List.length_replicate]; omega
    refine Ev.step (fun k => by simp only [atriumlaw17_HttpFields.l0]; exact rfl) (evIfPos (by omega) (evIfPos (by omega) (evIfPos (by omega) ?_)))
    rw [bt_nat nm i (by omega), Int.toNat_natCast, wrap64_succ (by omega)]
    refine evBindc rfl ?_
    have hrd : rd (x8.set i ((nm[i]'(by omega)).toNat : Int)) (i : Int) = ((nm[i]'(by omega)).toNat : Int) := by
      unfold rd
      rw [Int.toNat_natCast, List.getD_eq_getElem?_getD, List.getElem?_set_self (by omega)]; rfl
    rw [hrd]
    have hset : ∀ v : Int, x8.set i v = ((nm.data.toList.take i).map fun c => upI (c.toNat : Int)) ++ v :: List.replicate d 0 := by
      intro v
      have h1 : ((nm.data.toList.take i).map fun c => upI (c.toNat : Int)).length = i := by rw [List.length_map, List.length_take]; omega
      rw [hx, List.set_append_right _ _ (by omega), h1, Nat.sub_self, List.replicate_succ, List.set_cons_zero]
    have htk : ((nm.data.toList.take (i + 1)).map fun c => upI (c.toNat : Int)) = ((nm.data.toList.take i).map fun c => upI (c.toNat : Int)) ++ [upI ((nm[i]'(by omega)).toNat : Int)] := by
      rw [List.take_succ_eq_append_getElem (by omega), List.map_append]; rfl
    have hnext : ∀ v : Int, v = upI ((nm[i]'(by omega)).toNat : Int) → x8.set i v = ((nm.data.toList.take (i + 1)).map fun c => upI (c.toNat : Int)) ++ List.replicate d 0 := by
      intro v hv
      rw [hset v, htk, hv, List.append_assoc]; rfl
    have hkeep : upI ((nm[i]'(by omega)).toNat : Int) = if 97 ≤ ((nm[i]'(by omega)).toNat : Int) ∧ ((nm[i]'(by omega)).toNat : Int) ≤ 122 then (((nm[i]'(by omega)).toNat : Int) - 32) % 256 else ((nm[i]'(by omega)).toNat : Int) := rfl
    by_cases c1 : ((nm[i]'(by omega)).toNat : Int) ≥ 97
    · refine evIfPos c1 ?_
      by_cases c2 : ((nm[i]'(by omega)).toNat : Int) ≤ 122
      · refine evIfPos c2 (ih (i + 1) _ (by omega) ?_)
        rw [List.set_set]
        exact hnext _ (by rw [hkeep, if_pos ⟨c1, c2⟩])
      · refine evIfNeg c2 (ih (i + 1) _ (by omega) ?_)
        exact hnext _ (by rw [hkeep, if_neg (fun h => c2 h.2)])
    · refine evIfNeg c1 (ih (i + 1) _ (by omega) ?_)
      exact hnext _ (by rw [hkeep, if_neg (fun h => c1 h.1)])
theorem fields_ev (f0 f1 f3 : ByteArray) (f4 : Bool) (l : List S50) (nm : ByteArray) (hn : nm.size ≤ 140737488351232) (hl : l.length < 8796093022208) (hf : ∀ f ∈ l, f.f0.size ≤ 9223372036854775807) :
    Ev (fun k => atriumlaw17_HttpFields.f k f0 f1 l f3 f4 nm) true := by
  have hj : Ev (fun k => atriumlaw17_HttpFields.j0 k nm (allP l nm) false f0 f1 l f3 f4) true := by
    refine Ev.step (fun k => by simp only [atriumlaw17_HttpFields.j0]; exact rfl) (evIfNeg (show ¬ (false = true) by decide) (evIfPos (by omega) (evIfPos (by omega) ?_)))
    rw [Int.toNat_natCast]
    exact fields_loop f0 f1 f3 f4 l nm hn hl hf nm.size 0 _ (by omega) (by simp)
  have ha := all_ev f0 f1 f3 f4 l nm (by omega) hl hf
  unfold atriumlaw17_HttpFields.f
  refine Ev.bind ha ?_
  by_cases h0 : (allP l nm).length = 0
  · have hg : Ev (fun k => http_Get.f k f0 f1 l f3 f4 nm) (⟨#[]⟩, false) := by
      refine Ev.bind ha (evIfPos (by omega) (Ev.now _))
    refine Ev.bind hg (Ev.bind lives_ev (evIfPos rfl (evIfNeg ?_ (evIfNeg (show ¬ (false = true) by decide) ?_))))
    · rw [decide_eq_false (by omega)]; decide
    · have he : ((⟨#[]⟩ : ByteArray).toList != ([] : List UInt8)) = false := by
        rw [bne_eq_false_iff_eq]; exact (toList_nil _).2 rfl
      show Ev (fun n => atriumlaw17_HttpFields.j0 n nm (allP l nm) ((⟨#[]⟩ : ByteArray).toList != ([] : List UInt8)) f0 f1 l f3 f4) true
      rw [he]; exact hj
  · have hg : Ev (fun k => http_Get.f k f0 f1 l f3 f4 nm) (rdOf ByteArray.empty (allP l nm) 0, true) := by
      refine Ev.bind ha (evIfNeg (by omega) (evIfPos (by omega) (Ev.now _)))
    refine Ev.bind hg (Ev.bind lives_ev (evIfPos rfl (evIfNeg ?_ (evIfPos rfl (evIfPos (by omega) (evIfPos rfl hj))))))
    rw [decide_eq_true (by omega)]
    show ¬ ((true != true) = true)
    decide
theorem fields_walk (cs : Array Value) (y : S25) (nm : ByteArray) (W : World) (hK : k25.K W y cs.toList)
    (ho : y.f0.size ≤ 140737488351232 ∧ y.f1.size ≤ 140737488351232 ∧ (y.f2.length * 32 ≤ 140737488351232 ∧ ∀ x ∈ y.f2, x.f0.size ≤ 140737488351232 ∧ x.f1.size ≤ 140737488351232) ∧ y.f3.size ≤ 140737488351232 ∧ True)
    (hn : nm.size ≤ 140737488351232) (hm_ : MX W) :
    Calls Tryd.prog 5 #[.agg cs, .string nm] W fun e w' => e = .returned (.bool true) ∧ Go.RowKit.Below W.heap.size W w' := by
  obtain ⟨A, c, hcs, hc, hC⟩ := kReq_open hK
  obtain rfl : cs = #[.string y.f0, .string y.f1, .slice A y.f2.length c, .string y.f3, .bool y.f4] := by rw [← Array.toList_inj, hcs]
  obtain ⟨k, hk⟩ := (fields_ev y.f0 y.f1 y.f3 y.f4 y.f2 nm hn (by omega) (fun f hf => Nat.le_trans (ho.2.2.1.2 f hf).1 (by omega))).rounds
  exact atriumlaw17_HttpFields.calls k y.f0 y.f1 A c y.f2 y.f3 y.f4 nm true W hC hc hk hm_
end Go.Proofs.YtckbcnmcnhahhaaDoor.PQ
