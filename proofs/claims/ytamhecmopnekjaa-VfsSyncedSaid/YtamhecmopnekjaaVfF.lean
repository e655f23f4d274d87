/- vfs: Fail. -/
import Derived.Test.YtamhecmopnekjaaVfEE
import Derived.DeepKeys4
import Derived.Maps.AppendAt
namespace Go.Proofs.Ytamhecmopnekjaa.Vf
open Go Go.RowKit Go.Maps Go.Proofs.Ytamhecmopnekjaa Go.Proofs.YtamhecmopnekjaaW.PrintWords
set_option linter.unusedVariables false
set_option linter.unusedSimpArgs false

/-! ### slices.Clone of faults -/
def fcells (xs : List Fault) : List Value := xs.flatMap fun x => [.int .i64 x.op, .int .i64 x.nth, .int .i64 x.kind]
theorem fcells_cons (x : Fault) (xs : List Fault) : fcells (x :: xs) = [.int .i64 x.op, .int .i64 x.nth, .int .i64 x.kind] ++ fcells xs := rfl
theorem fcells_len : ∀ xs : List Fault, (fcells xs).length = xs.length * 3
  | [] => rfl
  | x :: xs => by rw [fcells_cons, List.length_append, fcells_len xs, List.length_cons]; simp only [List.length_cons, List.length_nil]; omega
theorem fcells_one (xs : List Fault) : ∀ u ∈ fcells xs, u.oneCell' = true := by
  intro u hu
  obtain ⟨x, _, hu⟩ := List.mem_flatMap.1 hu
  simp only [List.mem_cons, List.not_mem_nil, or_false] at hu
  rcases hu with rfl | rfl | rfl <;> rfl
theorem fcells_at : ∀ (xs : List Fault) (i : Nat), i < xs.length → (fcells xs)[i * 3]? = some (.int .i64 (xs.getD i z3).op) ∧ (fcells xs)[i * 3 + 1]? = some (.int .i64 (xs.getD i z3).nth) ∧ (fcells xs)[i * 3 + 2]? = some (.int .i64 (xs.getD i z3).kind)
  | [], i, h => by cases h
  | x :: xs, 0, _ => ⟨rfl, rfl, rfl⟩
  | x :: xs, i + 1, h => by
    have := fcells_at xs i (by simpa using h)
    have e : ∀ k, (i + 1) * 3 + k = [Value.int .i64 x.op, .int .i64 x.nth, .int .i64 x.kind].length + (i * 3 + k) := fun k => by simp only [List.length_cons, List.length_nil]; omega
    have e0 : (i + 1) * 3 = [Value.int .i64 x.op, .int .i64 x.nth, .int .i64 x.kind].length + i * 3 := by simp only [List.length_cons, List.length_nil]; omega
    rw [fcells_cons, e0, List.getElem?_append_right (by omega), Nat.add_sub_cancel_left, show ∀ k, [Value.int .i64 x.op, .int .i64 x.nth, .int .i64 x.kind].length + i * 3 + k = [Value.int .i64 x.op, .int .i64 x.nth, .int .i64 x.kind].length + (i * 3 + k) from fun k => by omega, List.getElem?_append_right (by omega), Nat.add_sub_cancel_left, show ∀ k, [Value.int .i64 x.op, .int .i64 x.nth, .int .i64 x.kind].length + i * 3 + k = [Value.int .i64 x.op, .int .i64 x.nth, .int .i64 x.kind].length + (i * 3 + k) from fun k => by omega, List.getElem?_append_right (by omega), Nat.add_sub_cancel_left]
    exact this
theorem fcells_reps (w : World) (base : Nat) (ok : Nat → Prop) (xs : List Fault) : Reps (kFault.M w base ok) kFault.sz xs (fcells xs) := by
  refine ⟨fcells_len xs, fun j p hj => ?_⟩
  obtain ⟨hl, hp⟩ := List.getElem?_eq_some_iff.1 hj
  obtain ⟨a0, a1, a2⟩ := fcells_at xs j hl
  have hg : xs.getD j z3 = p := by rw [List.getD_eq_getElem?_getD, hj]; rfl
  rw [hg] at a0 a1 a2
  have hs : kFault.sz = 3 := rfl
  rw [hs]
  have hc : ((fcells xs).drop (j * 3)).take 3 = [.int .i64 p.op, .int .i64 p.nth, .int .i64 p.kind] := by
    apply List.ext_getElem?
    intro i
    rcases (show i = 0 ∨ i = 1 ∨ i = 2 ∨ 3 ≤ i by omega) with rfl | rfl | rfl | h
    · rw [List.getElem?_take_of_lt (by omega), List.getElem?_drop, Nat.add_zero, a0]; rfl
    · rw [List.getElem?_take_of_lt (by omega), List.getElem?_drop, a1]; rfl
    · rw [List.getElem?_take_of_lt (by omega), List.getElem?_drop, a2]; rfl
    · rw [List.getElem?_eq_none (by rw [List.length_take]; omega), List.getElem?_eq_none (by simp; omega)]
  rw [hc]
  exact ⟨[_], [_, _], rfl, rfl, [_], [_], rfl, rfl, rfl⟩
theorem infoFault : (Try.prog.info? TFault).map (fun i => (i.zero, i.size, i.bytes)) = some (some (.agg #[.int .i64 0, .int .i64 0, .int .i64 0]), 3, 24) := by kernel_rfl
set_option maxHeartbeats 1000000 in
set_option maxRecDepth 100000 in
theorem clone_faults (A : Option Addr) (c : Nat) (xs : List Fault) (w : World) (HR : kFault.C w A xs.length xs) (hnc : xs.length ≤ c) (hl : xs.length ≤ 64) :
    Calls Try.prog 46 #[.slice A xs.length c] w fun e w' => ∃ v, e = .returned v ∧ kFault.R TFault w' w.heap.size (fun _ => True) v xs ∧ Below w.heap.size w w' := by
  have hu := Try.underlying48
  have hq := fun (w : World) (a : Option Addr) (n c : Nat) => Lib.run_eql_slice_nil (P := Try.prog) w _ _ a n c 0 0 hu
  rcases A with _ | ad
  · have h0 : xs.length = 0 := by
      rcases Nat.eq_zero_or_pos xs.length with h0 | h0
      · exact h0
      · obtain ⟨ad, h, _⟩ := HR.2.2 h0
        cases h
    have hL : xs = [] := List.eq_nil_of_length_eq_zero h0
    subst hL
    clear HR h0
    go_enter Try.func46, Try.ntmps46
    go_wp2
    go_ret
    exact ⟨_, rfl, Kd.R_nil _ _ _ _ _, Below.refl _ _⟩
  · have hb1 : Below w.heap.size w (w.alloc (.cells #[] TFault)) := (Below.refl _ _).alloc (Nat.le_refl _) _
    have HB := Aside0.mk hb1
    obtain ⟨i0, hi, hzz⟩ := Option.map_eq_some_iff.1 infoFault
    simp only [Prod.mk.injEq] at hzz
    obtain ⟨hz0, hz1, hz2⟩ := hzz
    have hown : (w.alloc (.cells #[] TFault)).ownsRow w.heap.size TFault 3 (.slice (some ⟨w.heap.size, 0, none⟩) 0 0) 0 [] := World.ownsRow_lit (base := w.heap.size) (e := TFault) (size := 3) w #[] 0 (Nat.le_refl _) (by decide) rfl
    have hnews : ∀ j u, (fcells xs)[j]? = some u → (w.alloc (.cells #[] TFault)).cell? (ad.add j) = some u := by
      intro j u hu
      have hj : j < xs.length * 3 := by rw [← fcells_len]; exact (List.getElem?_eq_some_iff.1 hu).1
      have hi3 : j / 3 < xs.length := by omega
      obtain ⟨ad', cs, e, hcl, hK, hc⟩ := Kd.C_get (Kd.C_below HR hb1) z3 ((j / 3 : Nat) : Int) (by omega) (by omega)
      injection e with e
      subst e
      rw [Int.toNat_natCast] at hK hc
      have hs : kFault.sz = 3 := rfl
      rw [hs] at hc
      obtain ⟨c0, c1, e, h0, h1, c2, e2, h2, h3⟩ := hK
      have h0' : c0 = [.int .i64 (xs.getD (j / 3) z3).op] := h0
      have h2' : _ = [Value.int .i64 (xs.getD (j / 3) z3).nth] := h2
      have h3' : _ = [Value.int .i64 (xs.getD (j / 3) z3).kind] := h3
      subst h0' h2' h3' e2 e
      obtain ⟨a0, a1, a2⟩ := fcells_at xs (j / 3) hi3
      rcases (show j = j / 3 * 3 ∨ j = j / 3 * 3 + 1 ∨ j = j / 3 * 3 + 2 by omega) with h | h | h
      · rw [h] at hu; rw [a0] at hu; rw [h, ← hu]; exact hc 0 _ rfl
      · rw [h] at hu; rw [a1] at hu; rw [h, ← hu]; exact hc 1 _ rfl
      · rw [h] at hu; rw [a2] at hu; rw [h, ← hu]; exact hc 2 _ rfl
    obtain ⟨v1, w1, hr, ho, hg, _, _⟩ := run_append_own_at (P := Try.prog) (w := w.alloc (.cells #[] TFault)) w.heap.size 48 48 TFault i0 _ 3 24 Try.underlying48 hi hz0 hz1 hz2 rfl (by decide) (.slice (some ⟨w.heap.size, 0, none⟩) 0 0) 0 [] hown ad xs.length c (fcells xs) (fcells_len xs) hnews (fcells_one xs) (by unfold maxLen; omega) (by omega) (by rw [size_alloc]; omega)
    have HO := Aside0.mk (show w1.ownsRow w.heap.size TFault 3 v1 xs.length (fcells xs) by have h := ho; rw [Nat.zero_add, List.nil_append] at h; exact h)
    have HG := Aside0.mk hg
    clear HR hnews hown ho hg hb1 hi hz0 hz1 hz2
    go_enter Try.func46, Try.ntmps46
    go_wp2_with (at_builtin; refine wpList_append_run rfl (.tmp 5) (.tmp 6) 48 rfl _ _ rfl rfl 48 rfl hr ?_)
    go_ret
    refine ⟨_, rfl, ⟨fun _ _ => trivial, fcells xs, HO.out, fcells_reps _ _ _ xs⟩, HB.out.grown HG.out HB.out.size (fun k hk => ?_)⟩
    change (Value.slice (some ⟨w.heap.size, 0, none⟩) 0 0).ownBlock = some k at hk
    have : w.heap.size = k := by simpa [Value.ownBlock] using hk
    omega
/-! ### The map of places -/
abbrev TPlace : Nat := 91
theorem laidOutF : laidOutB Try.prog = true := by kernel_rfl
theorem keyedP : Keyed Try.prog TPlace := Keyed.of_law (deep_law_laid laidOutF (m := 3) (by decide) (of_decide_eq_true (by kernel_rfl)) (by kernel_rfl) (by kernel_rfl))
def rdB : Value → Option (Dt × List MemPlace)
  | .bool b => some (.lit (.bool b), [])
  | _ => none
theorem rdB_inv {v : Value} {z : Dt × List MemPlace} (h : rdB v = some z) : ∃ b, v = .bool b := by
  unfold rdB at h
  split at h
  · exact ⟨_, rfl⟩
  · cases h
theorem keyOf_place (a b : Int) (ha : (Lit.int .i64 a).wf = true) (hb : (Lit.int .i64 b).wf = true) : ∃ kl, keyOf Try.prog TPlace (.agg #[.int .i64 a, .int .i64 b]) = some kl := by
  obtain ⟨n, hn⟩ : ∃ n, Try.prog.types.size = n + 1 := ⟨Try.prog.types.size - 1, by kernel_rfl⟩
  have hi : ∀ (d : Nat) (x : Int), (Lit.int .i64 x).wf = true → Try.prog.keyLits (d + 1) 3 [.int .i64 x] = some [.int .i64 x] := fun d x hx => by
    unfold Program.keyLits
    rw [Try.underlying3]
    simp [hx]
  have hs := Try.underlying91
  have hk : Try.prog.keyType TPlace = true := by kernel_rfl
  have hf : (Value.agg #[.int .i64 a, .int .i64 b]).formed Try.prog TPlace = true := by
    unfold Value.formed
    rw [hs]
    show (_ == Try.prog.cellsOf TPlace) = true
    rw [show Try.prog.cellsOf TPlace = 2 by kernel_rfl]
    rfl
  have hc : Try.prog.cellsOf TPlace = 2 := by kernel_rfl
  have hc3 : Try.prog.cellsOf 3 = 1 := by kernel_rfl
  unfold keyOf
  rw [hs]
  simp only [hk, hf, Bool.and_self, if_true]
  rw [hn]
  unfold Program.keyLits
  rw [hs]
  simp only [hc, hc3, hi n a ha, hi n b hb, Value.cells]
  simp [hi n a ha, hi n b hb, hc3]
/-- A fault of a row that is read, cell by cell, wherever the row lies. -/
theorem fault_in {w : World} {A : Option Addr} {n : Nat} {xs : List Fault} (h : kFault.C w A n xs) (i : Nat) (hi : i < n) : ∃ ad, A = some ad ∧
    w.cell? (ad.add (i * 3)) = some (.int .i64 (xs.getD i z3).op) ∧ w.cell? ⟨(ad.add (i * 3)).block, (ad.add (i * 3)).off + 1, none⟩ = some (.int .i64 (xs.getD i z3).nth) ∧ w.cell? ⟨(ad.add (i * 3)).block, (ad.add (i * 3)).off + 2, none⟩ = some (.int .i64 (xs.getD i z3).kind) := by
  obtain ⟨ad, c, e, hl, hK, hc⟩ := Kd.C_get h z3 (i : Int) (by omega) (by omega)
  rw [Int.toNat_natCast] at hK hc
  obtain ⟨c0, c1, e, h0, h1, c2, e2, h2, h3⟩ := hK
  have h0' : c0 = [.int .i64 (xs.getD i z3).op] := h0
  have h2' : _ = [Value.int .i64 (xs.getD i z3).nth] := h2
  have h3' : _ = [Value.int .i64 (xs.getD i z3).kind] := h3
  subst h0' h2' h3' e2 e
  have hs : kFault.sz = 3 := rfl
  rw [hs] at hc
  exact ⟨ad, ‹_›, hc 0 _ rfl, by rw [← add_field _ _ 1 (by omega)]; exact hc 1 _ rfl, by rw [← add_field _ _ 2 (by omega)]; exact hc 2 _ rfl⟩
/-- New faults, and the counts from the start. -/
def failS (S : St) (fv : Value) (xs : List Fault) (b : Nat) : St := { S with fv := fv, flts := xs, bn := b, nth := .map [] }
set_option maxHeartbeats 4000000 in
set_option maxRecDepth 100000 in
theorem fail_any (w0 : World) (g : Nat) (S : St) (A : Option Addr) (c : Nat) (xs : List Fault) (w : World) (h : FsB w0 g S w) (HR : kFault.C w A xs.length xs) (hnc : xs.length ≤ c) (hwf : ∀ x ∈ xs, (Lit.int .i64 x.op).wf = true ∧ (Lit.int .i64 x.nth).wf = true) :
    Calls Try.prog 21 #[.pointer (some ⟨g, 0, none⟩), .slice A xs.length c] w fun e w' =>
      KeptT w w' ∧ ((xs ≠ [] ∧ e = .returned (.int .i64 1) ∧ FsB w0 g S w') ∨ (e = .returned (.int .i64 0) ∧ ∃ fv b, FsB w0 g (failS S fv xs b) w')) := by
  have hu := Try.underlying73
  have hup := Try.underlying91
  have huf := Try.underlying89
  have hmm := @run_makeMap Try.prog
  have HF := Aside0.mk h
  have HM := Aside0.mk (made_some g S.bs w (h.cell 1 _ rfl))
  have hmax := HR.2.1
  by_cases hlong : 64 < xs.length
  · have hd : decide ((64 : Int) < (xs.length : Int)) = true := decide_eq_true (by omega)
    have hne := Aside0.mk (show xs ≠ [] from fun e => by rw [e] at hlong; cases hlong)
    clear h HR hwf hlong
    go_enter Try.func21, Try.ntmps21
    go_wp2_with (go_at_call 33; refine HM.out.mono ?_; rintro e w1 ⟨rfl, hw⟩; rw [hw]; clear hw w1)
    go_ret
    exact ⟨KeptT.refl _, .inl ⟨hne.out, rfl, HF.out⟩⟩
  · have hd : decide ((64 : Int) < (xs.length : Int)) = false := decide_eq_false (by omega)
    have h64 : (xs.length : Int) ≤ 64 := by omega
    have HRR := Aside0.mk HR
    have Hwf := Aside0.mk hwf
    have Hmk := Aside0.mk (show (w.alloc (.map #[] 0)).ownsMap Try.prog TPlace rdB w.heap.size 0 (.map []) from World.ownsMap_made w _ _ _)
    have Hb1 := Aside0.mk (show Below w.heap.size w (w.alloc (.map #[] 0)) from (Below.refl _ _).alloc (Nat.le_refl _) _)
    have HNil := Aside0.mk (fun (i : Nat) (hi : i < xs.length) (e : xs = []) => show False by rw [e] at hi; cases hi)
    clear h HR hwf hlong
    generalize hN : xs.length = N at *
    have HN := Aside0.mk hN
    clear hN
    go_enter Try.func21, Try.ntmps21
    go_wp2_with (go_at_call 33; refine HM.out.mono ?_; rintro e w1 ⟨rfl, hw⟩; rw [hw]; clear hw w1)
    go_loopw [17] (fun iv wr => ∃ (i n : Nat) (D : Dt), i ≤ N ∧ iv = .int .i64 i ∧ n ≤ i ∧ Aside0 (wr.ownsMap Try.prog TPlace rdB w.heap.size n D) ∧ Aside0 (Below w.heap.size w wr)) (fun iv _ => N - (intOf iv).toNat)
    case atStart => exact ⟨0, 0, _, Nat.zero_le _, rfl, Nat.le_refl _, Hmk, Hb1⟩
    case round =>
      obtain ⟨i, n, D, hi, rfl, hni, HO, HB⟩ := hrel
      by_cases hlt : i < N
      · obtain ⟨ad, rfl, f0, f1, f2⟩ := fault_in (Kd.C_below HRR.out HB.out) i hlt
        obtain ⟨wf1, wf2⟩ := Hwf.out (xs.getD i z3) (by rw [List.getD_eq_getElem?_getD, List.getElem?_eq_getElem (by rw [HN.out]; exact hlt)]; exact List.getElem_mem _)
        generalize xs.getD i z3 = x at *
        have hli : (i : Int) < (N : Int) := by omega
        have Hne := Aside0.mk (HNil.out i hlt)
        obtain ⟨kl, hkl⟩ := keyOf_place x.op x.nth wf1 wf2
        have hb2 : Below w.heap.size w (wr.alloc (.cells #[.int .i64 x.op, .int .i64 x.nth, .int .i64 x.kind] 89)) := below_alloc HB.out _
        have HB2 := Aside0.mk hb2
        have HO2 := Aside0.mk (HO.out.alloc (.cells #[.int .i64 x.op, .int .i64 x.nth, .int .i64 x.kind] 89))
        have hzb : (zeroValue 4).run Try.prog (wr.alloc (.cells #[.int .i64 x.op, .int .i64 x.nth, .int .i64 x.kind] 89)) = .ok (.bool false) (wr.alloc (.cells #[.int .i64 x.op, .int .i64 x.nth, .int .i64 x.kind] 89)) := by kernel_rfl
        obtain ⟨vb, psb, hlk, hvb⟩ := HO2.out.lookup keyedP Try.underlying87 hzb (zd := .lit (.bool false)) (zp := []) rfl hkl
        obtain ⟨b, rfl⟩ := rdB_inv hvb
        have Hkl := Aside0.mk hkl
        have Hn := Aside0.mk (show n < maxLen by unfold maxLen; omega)
        clear hvb hkl wf1 wf2 hb2 hzb
        by_cases p1 : x.op < 1
        · have e1 : decide (x.op < 1) = true := decide_eq_true p1
          clear p1
          go_wp2
          go_ret
          exact ⟨KeptT.of_below HB2.out, .inl ⟨Hne.out, rfl, HF.out.below HB2.out⟩⟩
        · have e1 : decide (x.op < 1) = false := decide_eq_false p1
          clear p1
          by_cases p2 : 7 < x.op
          · have e2 : decide (7 < x.op) = true := decide_eq_true p2
            clear p2
            go_wp2
            go_ret
            exact ⟨KeptT.of_below HB2.out, .inl ⟨Hne.out, rfl, HF.out.below HB2.out⟩⟩
          · have e2 : decide (7 < x.op) = false := decide_eq_false p2
            clear p2
            by_cases p3 : x.kind = 1 ∨ x.kind = 2
            · by_cases p4 : x.nth < 1
              · have e4 : decide (x.nth < 1) = true := decide_eq_true p4
                clear p4
                rcases p3 with p3 | p3
                · have e3 : (x.kind != 1) = false := by rw [p3]; rfl
                  clear p3
                  go_wp2
                  go_ret
                  exact ⟨KeptT.of_below HB2.out, .inl ⟨Hne.out, rfl, HF.out.below HB2.out⟩⟩
                · have e3 : (x.kind != 1) = true := by rw [p3]; rfl
                  have e5 : (x.kind != 2) = false := by rw [p3]; rfl
                  clear p3
                  go_wp2
                  go_ret
                  exact ⟨KeptT.of_below HB2.out, .inl ⟨Hne.out, rfl, HF.out.below HB2.out⟩⟩
              · have e4 : decide (x.nth < 1) = false := decide_eq_false p4
                clear p4
                rcases p3 with p3 | p3
                · have e3 : (x.kind != 1) = false := by rw [p3]; rfl
                  clear p3
                  cases b
                  · go_wp2_with (at_mapUpdate; refine wpList_mapUpdate_own _ rfl _ _ _ 87 rfl TPlace 4 keyedP Try.underlying87 _ w.heap.size _ _ rfl HO2.out Hn.out _ _ _ rfl rfl Hkl.out (.lit (.bool true)) [] rfl ?_; intro w4 h4 hg4; have H4 := Aside0.mk h4; have HG4 := Aside0.mk hg4; clear h4 hg4)
                    have HB4 := Aside0.mk (show Below w.heap.size w w4 from HB2.out.grown HG4.out HB2.out.size (fun k hk => by injection hk with hk; omega))
                    go_roundw
                    case rel => exact ⟨i + 1, n + 1, _, by omega, by go_num, by omega, H4, HB4⟩
                    case measure => simp [intOf]; omega
                  · go_wp2
                    go_ret
                    exact ⟨KeptT.of_below HB2.out, .inl ⟨Hne.out, rfl, HF.out.below HB2.out⟩⟩
                · have e3 : (x.kind != 1) = true := by rw [p3]; rfl
                  have e5 : (x.kind != 2) = false := by rw [p3]; rfl
                  clear p3
                  cases b
                  · go_wp2_with (at_mapUpdate; refine wpList_mapUpdate_own _ rfl _ _ _ 87 rfl TPlace 4 keyedP Try.underlying87 _ w.heap.size _ _ rfl HO2.out Hn.out _ _ _ rfl rfl Hkl.out (.lit (.bool true)) [] rfl ?_; intro w4 h4 hg4; have H4 := Aside0.mk h4; have HG4 := Aside0.mk hg4; clear h4 hg4)
                    have HB4 := Aside0.mk (show Below w.heap.size w w4 from HB2.out.grown HG4.out HB2.out.size (fun k hk => by injection hk with hk; omega))
                    go_roundw
                    case rel => exact ⟨i + 1, n + 1, _, by omega, by go_num, by omega, H4, HB4⟩
                    case measure => simp [intOf]; omega
                  · go_wp2
                    go_ret
                    exact ⟨KeptT.of_below HB2.out, .inl ⟨Hne.out, rfl, HF.out.below HB2.out⟩⟩
            · have e3 : (x.kind != 1) = true := by rw [bne_iff_ne]; exact fun h => p3 (.inl h)
              have e4 : (x.kind != 2) = true := by rw [bne_iff_ne]; exact fun h => p3 (.inr h)
              clear p3
              go_wp2
              go_ret
              exact ⟨KeptT.of_below HB2.out, .inl ⟨Hne.out, rfl, HF.out.below HB2.out⟩⟩
      · obtain rfl : i = N := by omega
        clear hni HO hlt hi
        have HR := Aside0.mk (HF.out.below HB.out)
        have HCl := Aside0.mk (clone_faults A c xs wr (HN.out.symm ▸ Kd.C_below HRR.out HB.out) (by rw [HN.out]; exact hnc) (by rw [HN.out]; omega))
        rw [HN.out] at HCl
        have Hfin := Aside0.mk (fun (w2 : World) (A5 : Option Addr) (c5 : Nat) (hb : Below wr.heap.size wr w2) (hfv : kFault.R TFault w2 wr.heap.size (fun _ => True) (.slice A5 xs.length c5) xs) => show
            ((w2.setCell ⟨g, 4, none⟩ (.slice A5 xs.length c5)).alloc (.map #[] 0)).cell? ⟨g, 5, none⟩ = some (.map (some S.bn)) ∧ ((w2.setCell ⟨g, 4, none⟩ (.slice A5 xs.length c5)).alloc (.map #[] 0)).frozen? ⟨g, 5, none⟩ = false ∧
            FsB w0 g (failS S (.slice A5 xs.length c5) xs w2.heap.size) (((w2.setCell ⟨g, 4, none⟩ (.slice A5 xs.length c5)).alloc (.map #[] 0)).setCell ⟨g, 5, none⟩ (.map (some w2.heap.size))) ∧ KeptT w (((w2.setCell ⟨g, 4, none⟩ (.slice A5 xs.length c5)).alloc (.map #[] 0)).setCell ⟨g, 5, none⟩ (.map (some w2.heap.size))) from by
          have h2 := HR.out.below hb
          have f3 := blk_put h2.fs 4 (.slice A5 xs.length c5) rfl
          have f4 := (Go.heap_alloc_old (w2.setCell ⟨g, 4, none⟩ (.slice A5 xs.length c5)) (.map #[] 0) (blk_lt f3)).trans f3
          have hs3 : (w2.setCell ⟨g, 4, none⟩ (.slice A5 xs.length c5)).heap.size = w2.heap.size := by simp [World.setCell]
          have r2 : FsR w0 { S with fv := .slice A5 xs.length c5, flts := xs } w2 := { h2.rest with fa := Kd.R_lower hfv (HR.out.be.size) }
          have r3 := r2.own (grown_set w2 g 4 (.slice A5 xs.length c5)) h2.fs h2.gB
          have r4 := r3.wr (T := fun _ => False) (M := fun _ => False) (Wr.of_below (below_alloc (Below.refl _ _) (.map #[] 0))) (below_alloc r3.be _) id id id id id id id
          have m4 := World.ownsMap_made (H := Unit) (w2.setCell ⟨g, 4, none⟩ (.slice A5 xs.length c5)) Try.prog 3 (plainElem Try.prog 3)
          rw [hs3] at m4
          have l1 := h2.se.lt
          have l2 := h2.la.lt
          have r5 : FsR w0 (failS S (.slice A5 xs.length c5) xs w2.heap.size) ((w2.setCell ⟨g, 4, none⟩ (.slice A5 xs.length c5)).alloc (.map #[] 0)) := { r4 with nt := m4, bB := ⟨r4.bB.1, r4.bB.2.1, h2.be.size⟩, ne := ⟨r4.ne.1, by show S.bs ≠ w2.heap.size; omega, by show S.bl ≠ w2.heap.size; omega⟩, nb := fun k hk => by cases hk }
          have r6 := r5.own (grown_set _ g 5 (.map (some w2.heap.size))) f4 h2.gB
          refine ⟨(blk_cell f4 5).trans rfl, blk_frozen f4 5, r6.full h2.gB (blk_put f4 5 _ rfl), ?_⟩
          exact ((((KeptT.of_below HB.out).trans (KeptT.of_below hb)).trans (KeptT.fs (grown_set w2 g 4 _) h2.fs)).trans (KeptT.of_below (below_alloc (Below.refl _ _) _))).trans (KeptT.fs (grown_set _ g 5 _) f4))
        go_wp2_with (go_at_call 46; refine HCl.out.mono ?_; rintro e w2 ⟨fv, rfl, hfv, hb⟩; obtain ⟨A5, c5, rfl, _⟩ := Kd.R_reads hfv; have HFv := Aside0.mk hfv; have HB2 := Aside0.mk hb; have k4 : w2.cell? ⟨g, 4, none⟩ = some S.fv := (HR.out.below hb).cell 4 _ rfl; have q4 := blk_frozen (HR.out.below hb).fs 4; have k5 := (Hfin.out w2 A5 c5 hb hfv).1; have q5 := (Hfin.out w2 A5 c5 hb hfv).2.1; clear hfv hb)
        go_ret
        have hz := Hfin.out w2 A5 c5 HB2.out HFv.out
        exact ⟨hz.2.2.2, .inr ⟨rfl, _, _, hz.2.2.1⟩⟩
end Go.Proofs.Ytamhecmopnekjaa.Vf
