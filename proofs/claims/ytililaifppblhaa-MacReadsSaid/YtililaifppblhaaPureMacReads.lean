/- MacReads: any text is read as digits, or as letters, just if some bytes are told by it: plain. No condition beyond the reach of a text. -/
import Derived.Test.YtililaifppblhaaMRT
namespace Go.Proofs.Ytililaifppblhaa.Pure
open Go Go.RowKit Go.Proofs.Ytililaifppblhaa Go.Proofs.Ytililaifppblhaa.PT Go.Proofs.YtililaifppblhaaW.PrintWords Go.Proofs.YtililaifppblhaaW.PrintLast
set_option linter.unusedVariables false
set_option linter.unusedSimpArgs false

/-- What both read as digits. -/
def unhexT (s : ByteArray) : ByteArray × Bool := if s.size % 2 = 0 then Sha.decRes (Sha.decG 4 Sha.hl s.data.toList 0 0) else (⟨#[]⟩, false)
theorem mac_unhexT (s : ByteArray) (h : s.size ≤ 140737488351232) : mac_Unhex.f s = some (unhexT s) := by
  unfold unhexT
  by_cases he : s.size % 2 = 0
  · rw [if_pos he, macUnhex s (by omega) he]
  · rw [if_neg he, macUnhexOdd s he]
theorem ref_unhexT (s : ByteArray) (h : s.size ≤ 140737488351232) : Ev (fun k => atriumref04_Unhex.f k s) (unhexT s) := by
  unfold unhexT
  by_cases he : s.size % 2 = 0
  · rw [if_pos he]; exact evUnhex s h he
  · rw [if_neg he]; exact evUnhexOdd s he
theorem unhex_hex (s : ByteArray) (h : (unhexT s).2 = true) : hexT (unhexT s).1 = s ∧ (unhexT s).1.size * 2 = s.size := by
  unfold unhexT at h ⊢
  by_cases he : s.size % 2 = 0
  · rw [if_pos he] at h ⊢
    cases hd : Sha.decG 4 Sha.hl s.data.toList 0 0 with
    | none => rw [hd] at h; cases h
    | some l =>
      have e : s.data.toList.length = s.size := Array.length_toList
      obtain ⟨e1, e2⟩ := Sha.dec4_hex (s.size / 2) s.data.toList l (by omega) hd
      refine ⟨data_inj ?_, ?_⟩
      · rw [hexT_data]; exact e1
      · show l.toArray.size * 2 = s.size
        rw [List.size_toArray]; omega
  · rw [if_neg he] at h; cases h
def unT (s : ByteArray) : ByteArray × Bool := Sha.decRes (Sha.decG 6 Sha.ll s.data.toList 0 0)
theorem un_b64 (s : ByteArray) (h : (unT s).2 = true) : b64T (unT s).1 = s ∧ 8 * (unT s).1.size ≤ 6 * s.size := by
  unfold unT at h ⊢
  rw [Sha.dec6] at h ⊢
  cases hd : Sha.digs s.data.toList with
  | none => rw [hd] at h; cases h
  | some d =>
    obtain ⟨e1, e2, e3⟩ := Sha.digs_let _ _ hd
    rw [hd] at h
    unfold Sha.decS at h ⊢
    simp only [Option.bind_some] at h ⊢
    by_cases hk : Sha.okS d 0 0 = true
    · rw [if_pos hk]
      have hb := (Sha.back6 d e2).2 hk
      have hlen := Sha.outS_len d 0 0
      refine ⟨data_inj ?_, ?_⟩
      · show Sha.letB Sha.letters (Sha.b64L (Sha.outS d 0 0)) = _
        rw [hb, e1]
      · show 8 * (Sha.outS d 0 0).toArray.size ≤ _
        have e : s.data.toList.length = s.size := Array.length_toList
        rw [List.size_toArray]; omega
    · rw [if_neg hk] at h; cases h
theorem MacReads : atriumlaw04_MacReads.Pure := by
  intro a0 h0
  apply Ev.rounds
  simp only [atriumlaw04_MacReads.f]
  refine evBindc (mac_unhexT a0 h0) ?_
  refine Ev.bind (ref_unhexT a0 h0) ?_
  refine evBindc (a := unT a0) (macUn a0 (by omega)) ?_
  refine Ev.bind (evUn a0 h0) ?_
  refine evBindc (a := true) rfl ?_
  refine evIfPos rfl ?_
  refine evIfPos rfl ?_
  refine evIfPos (by simp) ?_
  refine evIfPos rfl ?_
  refine evIfPos (by show ((unT a0).2 == (unT a0).2) = true; simp) ?_
  have hlast : Ev (fun _ : Nat => if (unT a0).2 = true then (mac_Base64.f (unT a0).1).bind fun t149 => some (t149.toList == a0.toList) else some true) true := by
    by_cases h2 : (unT a0).2 = true
    · obtain ⟨e1, e2⟩ := un_b64 a0 h2
      refine evIfPos h2 ?_
      refine evBindc (macB64 (unT a0).1 (by omega)) ?_
      rw [e1, show (a0.toList == a0.toList) = true by simp]
      exact Ev.now _
    · exact evIfNeg h2 (Ev.now _)
  by_cases h1 : (unhexT a0).2 = true
  · obtain ⟨e1, e2⟩ := unhex_hex a0 h1
    refine evIfPos h1 ?_
    refine evBindc (macHex (unhexT a0).1 (by omega)) ?_
    refine evIfPos (by rw [e1]) ?_
    exact hlast
  · refine evIfNeg h1 ?_
    exact hlast
end Go.Proofs.Ytililaifppblhaa.Pure
