/- Walks of the text package's functions that hand closures to each: Runes, Valid. -/
import Derived.Test.YtkekkabelnmlnaaTxA
import Derived.OneCell
import Derived.Maps.AppendAt
namespace Go.Proofs.Ytkekkabelnmlnaa
open Go Go.RowKit
set_option linter.unusedVariables false

theorem info32 : (Try.prog.info? 21).map (fun i => (i.zero, i.size, i.bytes)) = some (some (.int .i32 0), 1, 4) := by kernel_rfl

/-- What a closure is asked to keep: what the relation says, over new blocks and over an iterator's steps. -/
structure EachInv (B : Nat) (Inv : List (Nat × Nat) → World → Prop) : Prop where
  alloc : ∀ l W o, Inv l W → Inv l (W.alloc o)
  step : ∀ l (W : World) (k : Nat) (s : ByteArray) (p p' : Nat), B ≤ k → W.heap[k]? = some (Obj.stringIter s p) → Inv l W → Inv l (W.iterAt k s p')

def ItersKept (W W' : World) : Prop := ∀ (k : Nat) (s : ByteArray) (p : Nat), W.heap[k]? = some (Obj.stringIter s p) → W'.heap[k]? = some (Obj.stringIter s p)

/-- What has been told so far, and what is still to come. -/
def eachAt (s : ByteArray) (k pos : Nat) (last at_ : Value) (done : List (Nat × Nat)) : Prop :=
  (pos = 0 ∧ done = [] ∧ last = .int .i32 0 ∧ at_ = .int .i64 (-1)) ∨
  (∃ q : Nat, q < s.size ∧ pos = q + (Utf8.decode s q).2 ∧ last = .int .i32 (Utf8.decode s q).1 ∧ at_ = .int .i64 q ∧ ∃ f, s.size ≤ q + f ∧ done ++ rnFrom s f q = rn s)

set_option maxHeartbeats 2000000 in
theorem each_any (s : ByteArray) (F : Nat) (a : Addr) (Inv : List (Nat × Nat) → World → Prop) (w : World) (B : Nat) (hI : EachInv B Inv) (hB : B ≤ w.heap.size) (hs : s.size ≤ 9223372036854775807) (h0 : Inv [] w)
    (hen : ∀ args W, (callFunc F args).run Try.prog W = .ok (.enter F args) W)
    (hcl : ∀ l W (r n : Nat), Inv l W → l.length < (rn s).length → Calls Try.prog F #[.int .i32 r, .int .i64 n, .pointer (some a)] W fun e W' => e = .returned (.tuple #[]) ∧ Inv (l ++ [(r, n)]) W' ∧ ItersKept W W') :
    Calls Try.prog 38 #[.string s, .func (.func F) #[] #[.pointer (some a)]] w fun e w' => e = .returned (.tuple #[]) ∧ Inv (rn s) w' := by
  have Hcl := Lib.hid hcl
  have HI := Lib.hid hI
  have H0 := Lib.hid h0
  clear hcl hI h0
  go_enter Try.func38, Try.ntmps38
  go_wp2
  go_loopw [4, 5] (fun last at_ wr => ∃ (pos : Nat) (done : List (Nat × Nat)), wr.heap[w.heap.size]? = some (.stringIter s pos) ∧ pos ≤ s.size ∧ Hid (eachAt s w.heap.size pos last at_ done) ∧ Hid (Inv done wr)) (fun _ _ wr => s.size - wr.iterPos w.heap.size)
  case atStart => exact ⟨0, [], iter0 w s, by omega, .inl ⟨rfl, rfl, rfl, rfl⟩, HI.out.alloc _ _ _ H0.out⟩
  case round =>
    obtain ⟨pos, done, hit, hps, hat, hinv⟩ := hrel
    have Hps := Lib.hid (pos_of hit)
    by_cases hp : pos < s.size
    · have hnx : ∀ ty, (Instr.next (.pointer (some ⟨w.heap.size, 0, none⟩)) true ty).run Try.prog wr = _ := fun ty => Lib.run_next_any_at wr w.heap.size s pos ty hit hp
      have hit2 := Lib.iterAt_heap wr w.heap.size s pos (pos + (Utf8.decode s pos).2) hit
      have hd := dec_pos s pos hp
      have hfit := dec_fits s pos hp
      have Hps2 := Lib.hid (pos_of hit2)
      have Hinv2 := Lib.hid (HI.out.step _ _ _ _ _ (pos + (Utf8.decode s pos).2) hB hit hinv.out)
      rcases hat.out with ⟨rfl, rfl, rfl, rfl⟩ | ⟨q, hq, rfl, rfl, rfl, f, hf, hdone⟩
      · clear hit hat
        have hl : Hid ((([] : List (Nat × Nat)) ++ rnFrom s s.size 0) = rn s) := by show _ = _; rfl
        simp only [Nat.zero_add] at *
        go_wp2
        go_roundw
        case rel => exact ⟨(Utf8.decode s 0).2, [], hit2, by omega, .inr ⟨0, hp, by simp, rfl, rfl, s.size, by omega, hl.out⟩, Hinv2.out⟩
        case measure =>
          rw [Hps.out, Hps2.out]
          omega
      · obtain ⟨f, rfl⟩ : ∃ m, f = m + 1 := ⟨f - 1, by omega⟩
        have hdq := dec_pos s q hq
        have Hd := Lib.hid (show done ++ (Utf8.decode s q :: rnFrom s f (q + (Utf8.decode s q).2)) = rn s by rw [← hdone]; simp only [rnFrom, hq, if_true])
        have hlen : done.length < (rn s).length := by
          have h2 := congrArg List.length hdone
          simp only [List.length_append, rnFrom, hq, if_true, List.length_cons] at h2
          omega
        clear hit hat hdone
        go_wp2
        rw [show ((q : Int) + ((Utf8.decode s q).2 : Int) - (q : Int)) = ((Utf8.decode s q).2 : Int) by omega]
        refine (Hcl.out done _ _ _ Hinv2.out hlen).mono ?_
        rintro e W1 ⟨rfl, hinv3, hk⟩
        have hit3 := hk _ _ _ hit2
        have Hinv3 := Lib.hid hinv3
        have Hps3 := Lib.hid (pos_of hit3)
        clear hinv3 hk hit2
        go_wp2
        go_roundw
        case rel => exact ⟨_, done ++ [Utf8.decode s q], hit3, hfit, .inr ⟨_, hp, rfl, rfl, rfl, f, by omega, by rw [List.append_assoc]; exact Hd.out⟩, Hinv3.out⟩
        case measure =>
          rw [Hps.out, Hps3.out]
          omega
    · have hnx : ∀ ty, (Instr.next (.pointer (some ⟨w.heap.size, 0, none⟩)) true ty).run Try.prog wr = _ := fun ty => Lib.run_next_end_at wr w.heap.size s pos ty hit hp
      rcases hat.out with ⟨rfl, rfl, rfl, rfl⟩ | ⟨q, hq, rfl, rfl, rfl, f, hf, hdone⟩
      · have Hnil := Lib.hid (rnFrom_end s s.size 0 hp)
        clear hat
        go_wp2
        go_end0
        refine ⟨rfl, ?_⟩
        show Inv (rnFrom s s.size 0) _
        rw [Hnil.out]
        exact hinv.out
      · obtain ⟨f, rfl⟩ : ∃ m, f = m + 1 := ⟨f - 1, by omega⟩
        have hdq := dec_pos s q hq
        have hfq := dec_fits s q hq
        have Hd := Lib.hid (show done ++ [Utf8.decode s q] = rn s by rw [← hdone]; simp only [rnFrom, hq, if_true]; rw [rnFrom_end s f _ hp])
        have hlen : done.length < (rn s).length := by
          have h2 := congrArg List.length hdone
          simp only [List.length_append, rnFrom, hq, if_true, List.length_cons] at h2
          omega
        clear hit hat hdone
        go_wp2
        rw [show ((s.size : Int) - (q : Int)) = ((Utf8.decode s q).2 : Int) by omega]
        refine (Hcl.out done _ _ _ hinv.out hlen).mono ?_
        rintro e W1 ⟨rfl, hinv3, hk⟩
        have Hinv3 := Lib.hid hinv3
        clear hinv3 hk
        go_wp2
        go_end0
        exact ⟨rfl, by rw [← Hd.out]; exact Hinv3.out⟩

/-! ### Runes -/
def runeCells (l : List (Nat × Nat)) : List Value := l.map fun x => .int .i32 (x.1 : Int)

/-- The slice that the closure of Runes fills, in the variable's block b. -/
def RunesInv (w : World) (b : Nat) (l : List (Nat × Nat)) (W : World) : Prop :=
  ∃ v, W.heap[b]? = some (.cells #[v] 35 (0, 0)) ∧ W.ownsRow (b + 1) 21 1 v l.length (runeCells l) ∧ Below b w W ∧ b < W.heap.size

theorem runesInv_each (w : World) (b : Nat) : EachInv b (RunesInv w b) where
  alloc := fun l W o ⟨v, h1, h2, h3, h4⟩ => ⟨v, (Lib.alloc_old W o b h4).trans h1, h2.alloc _, h3.alloc (by omega) _, by simp; omega⟩
  step := fun l W k s p p' hB hk ⟨v, h1, h2, h3, h4⟩ => by
    have hkb : b ≠ k := by rintro rfl; rw [hk] at h1; cases h1
    refine ⟨v, (Lib.iterAt_other W k b s p' hkb).trans h1, ⟨h2.1, ?_⟩, ?_, by rw [Lib.iterAt_size]; exact h4⟩
    · rcases h2.2 with hn | ⟨g, cap, cur, hv, hbg, hg, rest⟩
      · exact .inl hn
      · have hkg : g ≠ k := by rintro rfl; rw [hk] at hg; cases hg
        exact .inr ⟨g, cap, cur, hv, hbg, (Lib.iterAt_other W k g s p' hkg).trans hg, rest⟩
    · exact Lib.below_iterAt h3 hB s p'

set_option maxHeartbeats 1000000 in
theorem runes1_any (w : World) (b : Nat) (hb : w.heap.size ≤ b) (l : List (Nat × Nat)) (W : World) (r n : Nat) (hI : RunesInv w b l W) (hl : (l.length + 1) * 4 ≤ 140737488355328) :
    Calls Try.prog 39 #[.int .i32 r, .int .i64 n, .pointer (some ⟨b, 0, none⟩)] W fun e W' => e = .returned (.tuple #[]) ∧ RunesInv w b (l ++ [(r, n)]) W' ∧ ItersKept W W' := by
  obtain ⟨v, hv, hown, hbw, hlt⟩ := hI
  obtain ⟨i0, hi, hz0, hz1, hz2⟩ := info_parts info32
  have c0 : W.cell? ⟨b, 0, none⟩ = some v := by rw [Lib.cell_of_heap hv]; rfl
  have Hv := Lib.hid hv
  clear hv
  go_enter Try.func39, Try.ntmps39
  go_wp2_with (at_builtin; refine wpList_append_own _ rfl _ _ 35 rfl (b + 1) 21 i0 (.int .i32 0) 1 4 Try.underlying35 hi hz0 hz1 hz2 rfl (by decide) _ _ _ rfl (hown.alloc _) ⟨W.heap.size, 0, none⟩ 1 1 [.int .i32 r] rfl rfl ?c1 ?c2 ?c3 ?c4 ?c5 ?_)
  case c1 => exact cell_one_new _ _ _
  case c2 => intro u hu; simp at hu; subst hu; rfl
  case c3 => unfold maxLen; omega
  case c4 => omega
  case c5 => simp; omega
  intro v' w2 hown' hgrow _
  have hne : some b ≠ v.ownBlock := by
    intro h
    rcases hown.2 with ⟨rfl, _⟩ | ⟨g, cap, cur, rfl, hg, _⟩
    · simp [Value.ownBlock] at h
    · simp [Value.ownBlock] at h; omega
  have hb2 : w2.heap[b]? = some (.cells #[v] 35 (0, 0)) := by
    rw [hgrow.block b (by simp; omega) hne]
    exact (Lib.alloc_old W _ b hlt).trans Hv.out
  have d0 : w2.cell? ⟨b, 0, none⟩ = some v := by rw [Lib.cell_of_heap hb2]; rfl
  have f0 : w2.frozen? ⟨b, 0, none⟩ = false := Lib.frozen_of_heap hb2 0
  have Hb2 := Lib.hid hb2
  clear hb2
  obtain ⟨ao, n', cap, rfl⟩ : ∃ ao n' cap, v' = .slice ao n' cap := by
    rcases hown'.2 with ⟨hv, _⟩ | ⟨g, cap, cur, hv, _⟩
    · exact ⟨_, _, _, hv⟩
    · exact ⟨_, _, _, hv⟩
  have Hs := Lib.hid (one_setCell Hb2.out (u := .slice ao n' cap))
  have Hgr := Lib.hid hgrow
  have Hown := Lib.hid hown'
  clear hgrow hown'
  go_wp2
  go_end0
  have hlt2 : b < w2.heap.size := lt_of_block Hb2.out
  refine ⟨rfl, ⟨_, Hs.out, ?_, ?_, by simp [World.setCell]; exact hlt2⟩, ?_⟩
  · refine ownsRow_setCell_below ?_ (show (⟨b, 0, none⟩ : Addr).block < b + 1 by simp) _
    rw [List.length_append, runeCells, List.map_append]
    exact Hown.out
  · exact ((hbw.alloc (by omega) _).grown Hgr.out (by simp; omega) (fun k hk => by
      rcases hown.2 with ⟨rfl, _⟩ | ⟨g, cap, cur, rfl, hg, _⟩
      · simp [Value.ownBlock] at hk
      · simp [Value.ownBlock] at hk; omega)).setCell (p := ⟨b, 0, none⟩) (Nat.le_refl b) _
  · intro k s p hk
    have hkl : k < W.heap.size := lt_of_block hk
    have hkb : k ≠ b := by rintro rfl; rw [Hv.out] at hk; cases hk
    rw [Below.heap_setCell _ _ _ _ (by simpa using hkb), Hgr.out.block k (by simp; omega) ?_]
    · exact (Lib.alloc_old W _ k hkl).trans hk
    · intro he
      rcases hown.2 with ⟨rfl, _⟩ | ⟨g, cap, cur, rfl, hg, hgg, _⟩
      · simp [Value.ownBlock] at he
      · have : k = g := by simpa [Value.ownBlock] using he
        rw [this, hgg] at hk; cases hk

set_option maxHeartbeats 1000000 in
/-- Runes: the list of the runes, in a row of the call's own. -/
theorem runes_any (s : ByteArray) (w : World) (hs : s.size ≤ 9223372036854775807) (hl : (rn s).length * 4 ≤ 140737488355328) :
    Calls Try.prog 20 #[.string s] w fun e w' => ∃ v, e = .returned v ∧ w'.ownsRow w.heap.size 21 1 v (rn s).length (runeCells (rn s)) ∧ Below w.heap.size w w' := by
  go_enter Try.func20, Try.ntmps20
  go_wp2_with (go_at_call 38; refine (each_any s 39 ⟨w.heap.size, 0, none⟩ (RunesInv w w.heap.size) _ w.heap.size (runesInv_each w w.heap.size) (by simp) hs ?h0 (enters_of Try.func39 (by kernel_rfl) rfl) ?h1).mono ?_)
  case h0 => exact ⟨.slice none 0 0, heap_alloc_new w _, World.ownsRow_nil _ _ _ _, (Below.refl _ w).alloc (Nat.le_refl _) _, by simp⟩
  case h1 => exact fun l W r n hI hl2 => runes1_any w w.heap.size (Nat.le_refl _) l W r n hI (by omega)
  rintro e W1 ⟨rfl, v, hv, hown, hb, hlt⟩
  have c0 : W1.cell? ⟨w.heap.size, 0, none⟩ = some v := by rw [Lib.cell_of_heap hv]; rfl
  clear hv
  go_wp2
  go_ret
  exact ⟨v, rfl, ⟨hown.1, hown.2.imp id fun ⟨g, cap, cur, h1, h2, h3⟩ => ⟨g, cap, cur, h1, by omega, h3⟩⟩, hb⟩


/-! ### Valid -/
def okRune (x : Nat × Nat) : Bool := x.1 != 65533 || decide (1 < x.2)

def ValidInv (w : World) (b : Nat) (l : List (Nat × Nat)) (W : World) : Prop :=
  W.heap[b]? = some (.cells #[.bool (l.all okRune)] 4 (0, 0)) ∧ Below b w W ∧ b < W.heap.size

theorem validInv_each (w : World) (b : Nat) : EachInv b (ValidInv w b) where
  alloc := fun l W o ⟨h1, h3, h4⟩ => ⟨(Lib.alloc_old W o b h4).trans h1, h3.alloc (by omega) _, by simp; omega⟩
  step := fun l W k s p p' hB hk ⟨h1, h3, h4⟩ => by
    have hkb : b ≠ k := by rintro rfl; rw [hk] at h1; cases h1
    exact ⟨(Lib.iterAt_other W k b s p' hkb).trans h1, Lib.below_iterAt h3 hB s p', by rw [Lib.iterAt_size]; exact h4⟩

theorem validInv_put {w : World} {b : Nat} {l : List (Nat × Nat)} {W : World} (h : ValidInv w b l W) (x : Nat × Nat) (c : Bool) (hc : c = (l ++ [x]).all okRune) :
    ValidInv w b (l ++ [x]) (W.setCell ⟨b, 0, none⟩ (.bool c)) ∧ ItersKept W (W.setCell ⟨b, 0, none⟩ (.bool c)) := by
  obtain ⟨h1, h3, h4⟩ := h
  subst hc
  refine ⟨⟨one_setCell h1, h3.setCell (p := ⟨b, 0, none⟩) (Nat.le_refl b) _, by simp [World.setCell]; exact h4⟩, fun k s p hk => ?_⟩
  have hkb : k ≠ b := by rintro rfl; rw [h1] at hk; cases hk
  rw [Below.heap_setCell _ _ _ _ (by simpa using hkb)]
  exact hk

set_option maxHeartbeats 1000000 in
theorem valid1_any (w : World) (b : Nat) (l : List (Nat × Nat)) (W : World) (r n : Nat) (hI : ValidInv w b l W) :
    Calls Try.prog 40 #[.int .i32 r, .int .i64 n, .pointer (some ⟨b, 0, none⟩)] W fun e W' => e = .returned (.tuple #[]) ∧ ValidInv w b (l ++ [(r, n)]) W' ∧ ItersKept W W' := by
  have c0 := cell_of_one hI.1
  have f0 := free_of_one hI.1
  have HI := Lib.hid hI
  clear hI
  generalize hq : l.all okRune = q at *
  have Hq := Lib.hid hq
  clear hq
  cases q with
  | false =>
    go_enter Try.func40, Try.ntmps40
    go_wp2
    go_end0
    exact ⟨rfl, validInv_put HI.out _ _ (by simp [List.all_append, Hq.out])⟩
  | true =>
    by_cases h1 : r = 65533
    · by_cases h2 : 1 < n
      · have g1 : ((r : Int) != 65533) = false := by simp [h1]
        have g2 : decide (1 < (n : Int)) = true := decide_eq_true (by omega)
        have Hr := Lib.hid (show okRune (r, n) = true by simp [okRune, h2])
        clear h1 h2
        go_enter Try.func40, Try.ntmps40
        go_wp2
        go_end0
        exact ⟨rfl, validInv_put HI.out _ _ (by simp [List.all_append, Hq.out, Hr.out])⟩
      · have g1 : ((r : Int) != 65533) = false := by simp [h1]
        have g2 : decide (1 < (n : Int)) = false := decide_eq_false (by omega)
        have Hr := Lib.hid (show okRune (r, n) = false by simp [okRune, h1, h2])
        clear h1 h2
        go_enter Try.func40, Try.ntmps40
        go_wp2
        go_end0
        exact ⟨rfl, validInv_put HI.out _ _ (by simp [List.all_append, Hq.out, Hr.out])⟩
    · have g1 : ((r : Int) != 65533) = true := by simp; omega
      have Hr := Lib.hid (show okRune (r, n) = true by simp [okRune, h1])
      clear h1
      go_enter Try.func40, Try.ntmps40
      go_wp2
      go_end0
      exact ⟨rfl, validInv_put HI.out _ _ (by simp [List.all_append, Hq.out, Hr.out])⟩

set_option maxHeartbeats 1000000 in
/-- Valid: no wrong byte. -/
theorem valid_any (s : ByteArray) (w : World) (hs : s.size ≤ 9223372036854775807) :
    Calls Try.prog 22 #[.string s] w fun e w' => e = .returned (.bool ((rn s).all okRune)) ∧ Below w.heap.size w w' := by
  go_enter Try.func22, Try.ntmps22
  go_wp2_with (go_at_call 38; refine (each_any s 40 ⟨w.heap.size, 0, none⟩ (ValidInv w w.heap.size) _ w.heap.size (validInv_each w w.heap.size) (by simp) hs ?h0 (enters_of Try.func40 (by kernel_rfl) rfl) ?h1).mono ?_)
  case h0 => exact ⟨heap_alloc_new w _, (Below.refl _ w).alloc (Nat.le_refl _) _, by simp⟩
  case h1 => exact fun l W r n hI hl2 => valid1_any w w.heap.size l W r n hI
  rintro e W1 ⟨rfl, hv, hb, hlt⟩
  have c0 := cell_of_one hv
  clear hv
  go_wp2
  go_ret
  exact ⟨rfl, hb⟩

end Go.Proofs.Ytkekkabelnmlnaa
