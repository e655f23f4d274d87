/- The walk of the law TextRanges: its own range over the text, then its four tests. -/
import Derived.Test.YtkekkabelnmlnaaPureTextRanges
import Derived.OneCell
import Derived.Maps.AppendAt
namespace Go.Proofs.Ytkekkabelnmlnaa
set_option linter.unusedVariables false
open Go Go.RowKit Go.Proofs.Ytkekkabelnmlnaa.PT Go.Proofs.Ytkekkabelnmlnaa.Pure Go.Proofs.YtkekkabelnmlnaaW.PrintWords

theorem lives_true : ∃ k, atriumlaw15_lives.f k = some true := Ev.rounds lives_ev
theorem same_true (l : List Int) (h : l.length ≤ 1048576) : ∃ k, atriumlaw15_sameRunes.f k l l = some true := by
  have := Ev.rounds (sameRunes_ev l l (by omega))
  rw [decide_eq_true rfl] at this
  exact this

theorem own_iterAt {W : World} {B e n : Nat} {v : Value} {xs : List Value} {k : Nat} {s : ByteArray} {p : Nat} (h : W.ownsRow B e 1 v n xs) (hk : W.heap[k]? = some (.stringIter s p)) (p' : Nat) : (W.iterAt k s p').ownsRow B e 1 v n xs := by
  refine ⟨h.1, ?_⟩
  rcases h.2 with hn | ⟨g, cap, cur, hv, hbg, hg, rest⟩
  · exact .inl hn
  · have hkg : g ≠ k := by rintro rfl; rw [hk] at hg; cases hg
    exact .inr ⟨g, cap, cur, hv, hbg, (Lib.iterAt_other W k g s p' hkg).trans hg, rest⟩
theorem own_block_ge {W : World} {B e n : Nat} {v : Value} {xs : List Value} (h : W.ownsRow B e 1 v n xs) : ∀ k, v.ownBlock = some k → B ≤ k := by
  intro k hk
  rcases h.2 with ⟨rfl, _⟩ | ⟨g, cap, cur, rfl, hg, _⟩
  · simp [Value.ownBlock] at hk
  · simp [Value.ownBlock] at hk; omega

theorem decode_at (s : ByteArray) (p : Nat) (hp : p < s.size) (w : World) :
    Calls Try.prog 16 #[.string (s.extract p s.size)] w fun e w' => e = .returned (.tuple #[.int .i32 (Utf8.decode s p).1, .int .i64 (Utf8.decode s p).2]) ∧ Below w.heap.size w w' := by
  have hx : (s.extract p s.size).size = s.size - p := by simp [ByteArray.size_extract]
  refine (decode_any _ w).mono fun e w' ⟨h1, h2⟩ => ⟨?_, h2⟩
  rw [h1, hx, if_neg (by omega), if_neg (by omega), decode_extract s p hp]

set_option maxHeartbeats 4000000 in
theorem ranges_walk (s : ByteArray) (w : World) (hs : s.size ≤ 1048576) :
    Calls Try.prog 8 #[.string s] w fun e w' => e = .returned (.bool true) ∧ Below w.heap.size w w' := by
  obtain ⟨kl, hlives⟩ := lives_true
  obtain ⟨i0, hi, hz0, hz1, hz2⟩ := info_parts info32
  have HL := Lib.hid hlives
  clear hlives
  go_enter Try.func8, Try.ntmps8
  go_wp2_with (go_at_call 11; refine (atriumlaw15_lives.calls kl true _ HL.out).mono ?_)
  rintro e w1 ⟨rfl, hb1⟩
  have Hb1 := Lib.hid hb1
  have hsz1 := hb1.size
  clear hb1
  go_wp2
  go_loopw [3, 4] (fun v r wr => ∃ (pos f : Nat) (done : List (Nat × Nat)), wr.heap[w1.heap.size]? = some (.stringIter s pos) ∧ pos ≤ s.size ∧ s.size ≤ pos + f ∧ Hid (done ++ rnFrom s f pos = rn s) ∧ Hid (wr.ownsRow (w1.heap.size + 1) 21 1 v done.length (runeCells done)) ∧ Hid (Below w1.heap.size w1 wr) ∧ done.length ≤ pos ∧ r = .bool (done.all okRune)) (fun _ _ wr => s.size - wr.iterPos w1.heap.size)
  case atStart => exact ⟨0, s.size, [], iter0 w1 s, by omega, by omega, rfl, World.ownsRow_nil _ _ _ _, (Below.refl _ w1).alloc (Nat.le_refl _) _, by simp, rfl⟩
  case round =>
    obtain ⟨pos, f, done, hit, hps, hf, hdone, hown, hb, hdl, rfl⟩ := hrel
    have Hps := Lib.hid (pos_of hit)
    have hbs := hb.out.size
    have hitlt : w1.heap.size < wr.heap.size := (Array.getElem?_eq_some_iff.1 hit).1
    by_cases hp : pos < s.size
    · have hnx : ∀ ty, (Instr.next (.pointer (some ⟨w1.heap.size, 0, none⟩)) true ty).run Try.prog wr = _ := fun ty => Lib.run_next_any_at wr w1.heap.size s pos ty hit hp
      have hit2 := Lib.iterAt_heap wr w1.heap.size s pos (pos + (Utf8.decode s pos).2) hit
      have hd := dec_pos s pos hp
      have hfit := dec_fits s pos hp
      have hb2 := Lib.below_iterAt hb.out (k := w1.heap.size) (Nat.le_refl _) s (pos + (Utf8.decode s pos).2)
      have hown2 := own_iterAt hown.out hit (pos + (Utf8.decode s pos).2)
      obtain ⟨f, rfl⟩ : ∃ m, f = m + 1 := ⟨f - 1, by omega⟩
      have Hd := Lib.hid (show (done ++ [Utf8.decode s pos]) ++ rnFrom s f (pos + (Utf8.decode s pos).2) = rn s by rw [← hdone.out]; simp only [rnFrom, hp, if_true, List.append_assoc, List.singleton_append])
      have hx : (s.extract pos s.size).size = s.size - pos := by simp [ByteArray.size_extract]
      have he := decode_extract s pos hp
      have hsz2 : (wr.iterAt w1.heap.size s (pos + (Utf8.decode s pos).2)).heap.size = wr.heap.size := Lib.iterAt_size _ _ _ _
      have Hx := Lib.hid hx
      have He := Lib.hid he
      have Hit2 := Lib.hid hit2
      have Hb2 := Lib.hid hb2
      have Hown2 := Lib.hid hown2
      have Hsz2 := Lib.hid hsz2
      clear hx he hit hit2 hb2 hown2 hsz2 hown hb hdone
      have hrc : ((done ++ [Utf8.decode s pos]).all okRune) = (done.all okRune && okRune (Utf8.decode s pos)) := by simp [List.all_append]
      have Hrc := Lib.hid hrc
      clear hrc
      go_wp2_with (go_at_call 16; refine (decode_at s pos hp _).mono ?_)
      rintro e w2 ⟨rfl, hb3⟩
      have Hown3 := Lib.hid (pw_own_below Hown2.out hb3)
      have Hb3 := Lib.hid (below_then Hb2.out (by rw [Hsz2.out]; exact hbs) hb3)
      have Hit3 := Lib.hid ((hb3.block w1.heap.size (by rw [Hsz2.out]; exact hitlt)).trans Hit2.out)
      have hsz3 : wr.heap.size ≤ w2.heap.size := by have := hb3.size; rw [Hsz2.out] at this; exact this
      clear hb3
      generalize hcn : Utf8.decode s pos = cn at *
      have Hcn := Lib.hid hcn
      clear hcn
      obtain ⟨c, n⟩ := cn
      simp only at hd hfit Hps
      have hrr : Hid (∀ b, okRune (c, n) = b → (done ++ [(c, n)]).all okRune = (done.all okRune && b)) := fun b hb => by rw [List.all_append]; simp [hb]
      have hlen : (done ++ [(c, n)]).length = done.length + 1 := by simp
      have Hlen := Lib.hid hlen
      clear hlen
      have hroom : (done.length + 1) * 4 ≤ 140737488355328 := by omega
      have hcase : (((c : Int) == 65533) = true ∧ ((n : Int) == 1) = true ∧ okRune (c, n) = false) ∨ (((c : Int) == 65533) = true ∧ ((n : Int) == 1) = false ∧ okRune (c, n) = true) ∨ (((c : Int) == 65533) = false ∧ okRune (c, n) = true) := by
        by_cases e1 : c = 65533
        · by_cases e2 : n = 1
          · exact .inl ⟨by simp [e1], by simp [e2], by simp [okRune, e1, e2]⟩
          · exact .inr (.inl ⟨by simp [e1], by simp; omega, by simp [okRune, e1]; omega⟩)
        · exact .inr (.inr ⟨by simp; omega, by simp [okRune, e1]⟩)
      have hnone : ∀ b : Nat, w1.heap.size + 1 ≤ b → b ≠ w1.heap.size := fun b hb => by omega
      clear Hrc He Hb2 Hit2 Hx
      rcases hcase with ⟨g1, g2, hok⟩ | ⟨g1, g2, hok⟩ | ⟨g1, hok⟩
      all_goals
        have Hr2 := Lib.hid (hrr.out _ hok)
        clear hok hnone
        go_wp2_with (at_builtin; refine wpList_append_own _ rfl _ _ 35 rfl (w1.heap.size + 1) 21 i0 (.int .i32 0) 1 4 Try.underlying35 hi hz0 hz1 hz2 rfl (by decide) _ _ _ rfl (Hown3.out.alloc _) ⟨w2.heap.size, 0, none⟩ 1 1 [.int .i32 c] rfl rfl (cell_one_new _ _ _) (by intro u hu; simp at hu; subst hu; rfl) (by unfold maxLen; omega) (by omega) (by simp; omega) ?_)
        intro v' w3 hown' hgrow _
        have Hown4 := Lib.hid hown'
        have Hg := Lib.hid hgrow
        have hit4 : w3.heap[w1.heap.size]? = some (.stringIter s (pos + n)) := by
          rw [Hg.out.block w1.heap.size (by simp; omega) (fun e => by have := own_block_ge Hown3.out w1.heap.size e.symm; omega)]
          exact (Lib.alloc_old w2 _ _ (by omega)).trans Hit3.out
        have Hit4 := Lib.hid hit4
        have Hps4 := Lib.hid (pos_of hit4)
        have Hb4 := Lib.hid ((Hb3.out.alloc (by omega) _).grown Hg.out (by simp; omega) (fun k hk => by have := own_block_ge Hown3.out k hk; omega))
        clear hown' hgrow hit4
        go_wp2
        go_roundw
        case rel =>
          refine ⟨pos + n, f, done ++ [(c, n)], Hit4.out, hfit, by omega, Hd, ?_, Hb4, by rw [Hlen.out]; omega, ?_⟩
          · show World.ownsRow _ _ _ _ _ _ _
            rw [Hlen.out, runeCells, List.map_append]
            exact Hown4.out
          · rw [Hr2.out]; simp
        case measure =>
          rw [Hps.out, Hps4.out]
          omega
    · have hnx : ∀ ty, (Instr.next (.pointer (some ⟨w1.heap.size, 0, none⟩)) true ty).run Try.prog wr = _ := fun ty => Lib.run_next_end_at wr w1.heap.size s pos ty hit hp
      have hdn : done = rn s := by rw [← hdone.out, rnFrom_end s f pos hp, List.append_nil]
      have hrlen : (runeInts s).length ≤ 1048576 := by
        have h1 : (rn s).length ≤ s.size := by have := rnFrom_len s s.size 0 (by omega); simpa [rn] using this
        have h2 : (runeInts s).length = (rn s).length := by simp [runeInts]
        omega
      have hR : text_Runes.f s = some (runeInts s) := by
        unfold text_Runes.f
        have h2 : (runeInts s).length = (rn s).length := by simp [runeInts]
        rw [if_pos (by omega)]
      have hT : text_Text.f (runeInts s) = some (utfText (runeInts s), 0) := by
        unfold text_Text.f
        rw [if_pos (by omega), runes_text]
      obtain ⟨ks, hS⟩ := same_true (runeInts s) hrlen
      have hown0 : wr.ownsRow (w1.heap.size + 1) 21 1 u3 (runeInts s).length (encs (Value.int .i32) (runeInts s)) := by
        have := hown.out
        rw [hdn] at this
        have e1 : encs (Value.int .i32) (runeInts s) = runeCells (rn s) := by simp [encs, runeInts, runeCells]
        rw [e1]
        simpa [runeInts] using this
      have hK0 : Kd.R (Kd.int .i32) 21 wr (w1.heap.size + 1) (fun _ => True) u3 (runeInts s) := Kd.R_of_own (enc := Value.int .i32) hown0 (fun _ _ => trivial)
      have HK0 := Lib.hid hK0
      have HR := Lib.hid hR
      have HT := Lib.hid hT
      have HS := Lib.hid hS
      have Hdn := Lib.hid hdn
      have HV := Lib.hid (utf_back s)
      have Hbw := Lib.hid ((below_then Hb1.out (by omega) hb.out))
      clear hK0 hown0 hR hT hS hdn hown hb hit hdone
      go_wp2_with fail
      refine (text_Runes.calls s _ _ HR.out).mono ?_
      rintro e w2 ⟨v2, rfl, hk2, hb2⟩
      obtain ⟨A2, cc2, rfl, hc2, hC2⟩ := Kd.R_reads hk2
      have HK2 := Lib.hid hk2
      have HC2 := Lib.hid hC2
      have Hb2 := Lib.hid hb2
      clear hk2 hC2 hb2
      go_wp2_with fail
      refine (text_Text.calls A2 cc2 _ _ _ _ HC2.out hc2 HT.out).mono ?_
      rintro e w3 ⟨rfl, hb3⟩
      have Hb3 := Lib.hid hb3
      clear hb3 HC2 HK2
      go_wp2_with fail
      refine (text_Runes.calls s _ _ HR.out).mono ?_
      rintro e w4 ⟨v4, rfl, hk4, hb4⟩
      obtain ⟨A4, cc4, rfl, hc4, hC4⟩ := Kd.R_reads hk4
      have Hb34 := Lib.hid (below_then (below_then Hb2.out Hb2.out.size Hb3.out) (Nat.le_trans Hb2.out.size Hb3.out.size) hb4)
      obtain ⟨A0, cc0, rfl, hc0, hC0⟩ := Kd.R_reads HK0.out
      have HC0 := Lib.hid (Kd.C_below hC0 Hb34.out)
      have HC4 := Lib.hid hC4
      have hw4 := below_then (below_then (below_then Hbw.out Hbw.out.size Hb2.out) (Nat.le_trans Hbw.out.size Hb2.out.size) Hb3.out) (Nat.le_trans (Nat.le_trans Hbw.out.size Hb2.out.size) Hb3.out.size) hb4
      have Hw4 := Lib.hid hw4
      clear hk4 hC4 hb4 hC0 hw4
      go_wp2_with fail
      refine (atriumlaw15_sameRunes.calls ks A4 cc4 _ A0 cc0 _ true _ HC4.out hc4 HC0.out hc0 HS.out).mono ?_
      rintro e w5 ⟨rfl, ⟨nd, rfl⟩⟩
      go_wp2_with fail
      refine (valid_any s _ (by omega)).mono ?_
      rintro e w6 ⟨rfl, hb6⟩
      have Hw6 := Lib.hid (below_then Hw4.out Hw4.out.size (show Below w4.heap.size w4 w6 from ⟨hb6.os, hb6.tape, hb6.output, hb6.size, hb6.block⟩))
      clear hb6
      generalize hall : done.all okRune = right at *
      have Hall := Lib.hid hall
      clear hall
      have hval : (rn s).all okRune = right := by rw [← Hdn.out]; exact Hall.out
      rw [hval]
      have Hval := Lib.hid hval
      clear hval
      go_wp2
      go_ret
      refine ⟨?_, Hw6.out⟩
      have h1 := HV.out
      rw [Hval.out] at h1
      have h2 : (((utfText (runeInts s)).toList == s.toList) == right) = true := by rw [beq_iff_eq, ← h1, Bool.eq_iff_iff, beq_iff_eq, decide_eq_true_eq]
      exact congrArg (fun b => Ending.returned (.bool b)) h2
end Go.Proofs.Ytkekkabelnmlnaa
