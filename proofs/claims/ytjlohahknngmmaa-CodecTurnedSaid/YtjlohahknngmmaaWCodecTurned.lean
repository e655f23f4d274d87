/- Walk: the law CodecTurned. Printed by cdturn.py. -/
import Derived.Test.YtjlohahknngmmaaPureTurn
import Derived.Test.YtjlohahknngmmaaCdM
import Derived.Test.YtjlohahknngmmaaTy
import Derived.RegionTactic
import Derived.BigRegion
import Derived.Deep.RegionHeld3
namespace Go.Proofs.Ytjlohahknngmmaa
open Go Go.RowKit Go.Proofs.YtjlohahknngmmaaW.PrintWords Go.Proofs.YtjlohahknngmmaaW.PrintMore Go.Proofs.YtjlohahknngmmaaW.PrintLast Go.Proofs.Ytjlohahknngmmaa.PureQ Go.Proofs.Ytjlohahknngmmaa.PureD
set_option linter.unusedVariables false
set_option linter.unusedSimpArgs false

/-- A row of bytes in block g, cell by cell. -/
def RowB (g : Nat) (L : List UInt8) (w : World) : Prop := ∀ i, i < L.length → w.cell? ⟨g, i, none⟩ = some (.int .u8 ((L.getD i 0).toNat : Int)) ∧ w.frozen? ⟨g, i, none⟩ = false
theorem rowB_new (w : World) (s : ByteArray) : RowB w.heap.size s.data.toList (Lib.bytesWorld w 5 s) := by
  intro i hi
  rw [Array.length_toList] at hi
  refine ⟨Lib.bytesWorld_cell w 5 s i hi, ?_⟩
  have hs : (Lib.bytesCells w 5 s).size ≥ s.size := by simp [Lib.bytesCells]
  have hz : s.data.size = s.size := rfl
  simp only [World.frozen?, Lib.bytesWorld_at_new]
  simp; omega
theorem RowB.set {g : Nat} {L : List UInt8} {w : World} (h : RowB g L w) (i : Nat) (c : UInt8) : RowB g (L.set i c) (w.setCell ⟨g, i, none⟩ (.int .u8 (c.toNat : Int))) := by
  intro j hj
  rw [List.length_set] at hj
  obtain ⟨h1, h2⟩ := h j hj
  refine ⟨?_, by rw [World.frozen?_setCell]; exact h2⟩
  by_cases he : i = j
  · subst he
    rw [World.cell?_setCell_same _ _ _ h1, List.getD_eq_getElem?_getD, List.getElem?_set_self hj, Option.getD_some]
  · rw [World.cell?_setCell_other _ _ _ _ (fun h => he (by injection h)), h1, List.getD_eq_getElem?_getD, List.getD_eq_getElem?_getD, List.getElem?_set_ne he]
theorem RowB.drewN {g : Nat} {L : List UInt8} {w : World} (h : RowB g L w) (n : Nat) : RowB g L (w.drewN n) := h
theorem RowB.drew {g : Nat} {L : List UInt8} {w : World} (h : RowB g L w) : RowB g L w.drew := h

/-- The loop's state. -/
def LoopS (turn P : Nat) (M0 : List UInt8) (k : Nat) (c : Bool) (M : List UInt8) : Prop := Turned turn P k M0 M ∧ (c = true ↔ ∃ i, i < k ∧ turn.testBit i = true ∧ P + i < 8 * M0.length)
theorem LoopS.zero (turn P : Nat) (M0 : List UInt8) : LoopS turn P M0 0 false M0 := ⟨turned_zero _ _ _, ⟨(fun h => by cases h), (fun ⟨i, h, _⟩ => absurd h (Nat.not_lt_zero _))⟩⟩
theorem LoopS.skip {turn P k : Nat} {M0 M : List UInt8} {c : Bool} (h : LoopS turn P M0 k c M) (hs : turn.testBit k = false ∨ 8 * M0.length ≤ P + k) : LoopS turn P M0 (k + 1) c M := by
  refine ⟨turned_skip h.1 hs, h.2.trans ⟨fun ⟨i, a, b, d⟩ => ⟨i, by omega, b, d⟩, fun ⟨i, a, b, d⟩ => ⟨i, ?_, b, d⟩⟩⟩
  rcases Nat.lt_or_ge i k with h1 | h1
  · exact h1
  · obtain rfl : i = k := by omega
    rcases hs with hs | hs
    · rw [hs] at b; cases b
    · omega
theorem LoopS.flip {turn P k : Nat} {M0 M : List UInt8} {c : Bool} (h : LoopS turn P M0 k c M) (ht : turn.testBit k = true) (hlt : P + k < 8 * M0.length) :
    LoopS turn P M0 (k + 1) true (M.set ((P + k) / 8) (M.getD ((P + k) / 8) 0 ^^^ UInt8.ofNat (2 ^ ((P + k) % 8)))) :=
  ⟨turned_flip h.1 ht hlt, ⟨fun _ => ⟨k, by omega, ht, hlt⟩, fun _ => rfl⟩⟩

def head8 (kind : Int) (n : Nat) : List UInt8 := [68, 70] ++ u8s (nb kind 1) ++ u8s (nb 0 1) ++ u8s (nb (n : Int) 4)
theorem head8_length (kind : Int) (n : Nat) : (head8 kind n).length = 8 := by simp [head8, u8s_length, nb_length]
theorem frame_head8 (kind : Int) (body : ByteArray) : u8s (frameHead kind body) = head8 kind body.size ++ body.data.toList := by
  simp only [frameHead, u8s_append, u8s_bytes]; rfl
/-- What is unframed of the row behind the loop. -/
theorem loop_unf (kind : Int) (h0 : 0 ≤ kind) (h1 : kind ≤ 255) (body : ByteArray) (hs : body.size ≤ 1048576) (turn P : Nat) (c : Bool) (M : List UInt8) (h : LoopS turn P body.data.toList 32 c M) (t : ByteArray)
    (ht : t.data.toList = head8 kind body.size ++ M ++ u8s (nb (crcOf (strOfNums (frameHead kind body)).data.toList) 4)) :
    unf t = if c = true then (0, ⟨#[]⟩, 0, 23) else (kind, body, ((12 + body.size : Nat) : Int), 0) := by
  have hcr := crc_range (strOfNums (frameHead kind body)).data.toList
  obtain ⟨b2, hb2⟩ : ∃ b2 : ByteArray, b2.data.toList = M := ⟨⟨M.toArray⟩, rfl⟩
  have hz : b2.size = body.size := by
    have a := h.1.1
    rw [← hb2, Array.length_toList, Array.length_toList] at a
    exact a
  have et : t = strOfNums (frameHead kind b2 ++ nb (crcOf (strOfNums (frameHead kind body)).data.toList) 4) := by
    apply data_inj
    rw [ht]
    show _ = u8s (frameHead kind b2 ++ nb (crcOf (strOfNums (frameHead kind body)).data.toList) 4)
    rw [u8s_append, frame_head8 kind b2, hz, hb2]
  rw [et, unf_sum kind h0 h1 b2 (by omega) _ hcr, u8s_str, u8s_str, frame_head8, frame_head8, hz, hb2]
  cases c with
  | false =>
    have hM : M = body.data.toList := turned_none h.1 fun i hi => by
      by_cases hb : turn.testBit i = true
      · right
        rcases Nat.lt_or_ge (P + i) (8 * body.data.toList.length) with hx | hx
        · have := h.2.2 ⟨i, hi, hb, hx⟩
          cases this
        · exact hx
      · left; simpa using hb
    rw [if_pos (by rw [hM]), if_neg (by decide)]
    rw [data_inj (a := b2) (b := body) (by rw [hb2, hM])]
  | true =>
    obtain ⟨i, hi, hb, hx⟩ := h.2.1 rfl
    have hM : M ≠ body.data.toList := turned_some h.1 hi hb hx
    rw [if_pos rfl, if_neg (fun he => turned_crc (H := head8 kind body.size) h.1 hM he.symm)]
theorem row_mid {H M S : List UInt8} (i : Nat) (h : i < M.length) : (H ++ M ++ S).getD (H.length + i) 0 = M.getD i 0 := by
  rw [List.getD_eq_getElem?_getD, List.getD_eq_getElem?_getD, List.append_assoc, List.getElem?_append_right (by omega), Nat.add_sub_cancel_left, List.getElem?_append_left h]
theorem row_set {H M S : List UInt8} (i : Nat) (c : UInt8) (h : i < M.length) : (H ++ M ++ S).set (H.length + i) c = H ++ M.set i c ++ S := by
  rw [List.append_assoc, List.set_append_right _ _ (by omega), Nat.add_sub_cancel_left, List.set_append_left _ _ h, List.append_assoc]
theorem turn_test (turn k : Nat) : ((turn / 2 ^ k : Nat) : Int) % 2 = if turn.testBit k = true then 1 else 0 := by
  rw [Nat.testBit_eq_decide_div_mod_eq]
  by_cases h : turn / 2 ^ k % 2 = 1
  · rw [if_pos (by simpa using h)]; omega
  · rw [if_neg (by simpa using h)]; omega

theorem row_str (L : List UInt8) : strOfNums (L.map fun c => (c.toNat : Int)) = ⟨L.toArray⟩ := by
  apply data_inj
  show ((L.map fun c => (c.toNat : Int)).map fun n => UInt8.ofNat n.toNat).toArray.toList = L.toArray.toList
  simp only [List.map_map, List.toList_toArray]
  conv => rhs; rw [← List.map_id L]
  apply List.map_congr_left
  intro c _
  show UInt8.ofNat ((c.toNat : Int).toNat) = c
  rw [Int.toNat_natCast, UInt8.ofNat_toNat]
theorem test_eq (tn k : Nat) : ((tn : Int) / 2 ^ k).tmod 2 = if tn.testBit k = true then 1 else 0 := by
  have h := turn_test tn k
  rw [Int.natCast_ediv, Int.natCast_pow] at h
  rw [← h, Int.tmod_eq_emod_of_nonneg (Int.ediv_nonneg (by omega) (Int.le_of_lt (Int.pow_pos (by decide))))]; rfl
theorem xor_flip (c : UInt8) (p : Nat) (h : p < 8) : Go.bits .xor .u8 (c.toNat : Int) ((2 : Int) ^ p % 256) = ((c ^^^ UInt8.ofNat (2 ^ p)).toNat : Int) := by
  have h' := byte_all (fun c => (List.range 8).all fun p => decide (Go.bits .xor .u8 (c.toNat : Int) ((2 : Int) ^ p % 256) = ((c ^^^ UInt8.ofNat (2 ^ p)).toNat : Int))) (by decide +kernel) c
  exact of_decide_eq_true (List.all_eq_true.1 h' p (List.mem_range.2 h))
set_option maxHeartbeats 4000000 in
set_option maxRecDepth 100000 in
theorem turned_any (kind : Int) (body : ByteArray) (at_ turn : Int) (w : World) (h0 : 0 ≤ kind) (h1 : kind ≤ 255) (ha0 : -9223372036854775808 ≤ at_) (ha1 : at_ ≤ 9223372036854775807) (ht0 : 0 ≤ turn) (ht1 : turn ≤ 4294967295) (hs : body.size ≤ 140737488351232) :
    Calls Try.prog 10 #[.agg #[.int .u8 kind, .string body, .int .i64 at_, .int .u32 turn]] w fun e w' => e = .returned (.bool true) ∧ Below w.heap.size w w' := by
  have hu := Try.underlying63
  have HB0 := Aside0.mk (below_alloc (Below.refl w.heap.size w) (.cells #[.int .u8 kind, .string body, .int .i64 at_, .int .u32 turn] 63))
  by_cases hb : body.size > 1048576
  · have HR : Aside0 (frameRes kind body = (⟨#[]⟩, 3)) := ⟨by unfold frameRes; rw [if_pos hb]⟩
    have hd : decide ((body.size : Int) ≤ 1048576) = false := decide_eq_false (by omega)
    clear hb
    go_enter Try.func10, Try.ntmps10
    go_wp2_with (go_quiet (fail))
    go_wp2_with (go_at_call 34; refine (frame_any kind body _ h0 h1).mono ?_)
    rw [HR.out]
    rintro e w1 ⟨rfl, hb1⟩
    have HB1 := Aside0.mk ((pw_below_drewN HB0.out nq).trans (hb1.mono HB0.out.size))
    clear hb1
    go_wp2_with (go_at_call 11; refine (awake_any _).mono ?_)
    rintro e w2 ⟨rfl, hb2⟩
    have HB2 := Aside0.mk (HB1.out.trans (hb2.mono HB1.out.size))
    clear hb2
    go_wp2
    go_ret
    exact ⟨rfl, HB2.out⟩
  · have hsz : body.size ≤ 1048576 := by omega
    have hd : decide ((body.size : Int) ≤ 1048576) = true := decide_eq_true (by omega)
    obtain ⟨fs, hfs⟩ : ∃ fs : ByteArray, fs = strOfNums (frameHead kind body ++ nb (crcOf (strOfNums (frameHead kind body)).data.toList) 4) := ⟨_, rfl⟩
    have HFS := Aside0.mk hfs
    have HR : Aside0 (frameRes kind body = (fs, 0)) := ⟨by rw [hfs]; unfold frameRes; rw [if_neg hb]⟩
    clear hb hfs
    have Hsz := Aside0.mk hsz
    by_cases hz : body.size = 0
    · have hz2 : ((body.size : Int) == 0) = true := by rw [hz]; rfl
      clear hz hsz hd
      have hd : decide ((body.size : Int) ≤ 1048576) = true := decide_eq_true (by have := Hsz.out; omega)
      go_enter Try.func10, Try.ntmps10
      go_wp2_with (go_quiet (fail))
      go_wp2_with (go_at_call 34; refine (frame_any kind body _ h0 h1).mono ?_)
      rw [HR.out]
      rintro e w1 ⟨rfl, hb1⟩
      have HB1 := Aside0.mk ((pw_below_drewN HB0.out nq).trans (hb1.mono HB0.out.size))
      clear hb1
      go_wp2_with (go_at_call 11; refine (awake_any _).mono ?_)
      rintro e w2 ⟨rfl, hb2⟩
      have HB2 := Aside0.mk (HB1.out.trans (hb2.mono HB1.out.size))
      clear hb2
      go_wp2
      go_ret
      exact ⟨rfl, HB2.out⟩
    · have hz2 : ((body.size : Int) == 0) = false := beq_eq_false_iff_ne.mpr (by omega)
      have hpos : 1 ≤ (body.size : Int) := by omega
      have hsz2 : (body.size : Int) ≤ 1048576 := by omega
      have hp1 : at_.tmod (8 * (body.size : Int)) < 8 * (body.size : Int) := Int.tmod_lt_of_pos _ (by omega)
      have hp2 : -(8 * (body.size : Int)) < at_.tmod (8 * (body.size : Int)) := by
        have h := Int.tmod_lt_of_pos (-at_) (show 0 < 8 * (body.size : Int) by omega)
        rw [Int.neg_tmod] at h
        omega
      clear hz hsz
      by_cases hneg : at_.tmod (8 * (body.size : Int)) < 0
      · go_enter Try.func10, Try.ntmps10
        go_wp2_with (go_quiet (fail))
        go_wp2_with (go_at_call 34; refine (frame_any kind body _ h0 h1).mono ?_)
        rw [HR.out]
        rintro e w1 ⟨rfl, hb1⟩
        have HB1 := Aside0.mk ((pw_below_drewN HB0.out nq).trans (hb1.mono HB0.out.size))
        clear hb1
        go_wp2_with (go_at_call 11; refine (awake_any _).mono ?_)
        rintro e w2 ⟨rfl, hb2⟩
        have HB2 := Aside0.mk (HB1.out.trans (hb2.mono HB1.out.size))
        clear hb2
        have kb := print_bytes (P := Try.prog) 9 64 5 Try.underlying9 Try.underlying64 Try.underlying5 fs w2
        have Hrow := Aside0.mk (rowB_new w2 fs)
        have Hbel := Aside0.mk (bytes_below HB2.out HB2.out.size 5 fs)
        have Hge := Aside0.mk HB2.out.size
        generalize Lib.bytesWorld w2 5 fs = W3 at kb Hrow Hbel
        go_wp2
        generalize hE : at_.tmod (8 * (body.size : Int)) + 8 * (body.size : Int) = p at *
        have hp0 : 0 ≤ p ∧ p < 8 * (body.size : Int) := by omega
        clear hE hp1 hp2 hneg
        obtain ⟨P, rfl⟩ := Int.eq_ofNat_of_zero_le hp0.1
        have hpD := hp0.2
        clear hp0
        generalize w2.heap.size = g at *
        have Hfl := Aside0.mk (show fs.data.toList = head8 kind body.size ++ body.data.toList ++ u8s (nb (crcOf (strOfNums (frameHead kind body)).data.toList) 4) by rw [HFS.out, u8s_str, u8s_append, frame_head8])
        obtain ⟨tn, rfl⟩ := Int.eq_ofNat_of_zero_le ht0
        go_loopw [11, 12] (fun ch iv wr => ∃ (k : Nat) (c : Bool) (M : List UInt8), k ≤ 32 ∧ iv = .int .i64 k ∧ ch = .bool c ∧ Aside0 (LoopS tn P body.data.toList k c M) ∧ Aside0 (RowB g (head8 kind body.size ++ M ++ u8s (nb (crcOf (strOfNums (frameHead kind body)).data.toList) 4)) wr) ∧ Aside0 (Below w.heap.size w wr)) (fun _ iv _ => 32 - (intOf iv).toNat)
        case atStart => exact ⟨0, false, body.data.toList, by decide, rfl, rfl, ⟨LoopS.zero _ _ _⟩, ⟨by rw [← Hfl.out]; exact Hrow.out⟩, Hbel⟩
        case round =>
          obtain ⟨k, c, M, hk, rfl, rfl, HL, HRow, HBel⟩ := hrel
          by_cases hlt : k < 32
          · have hk2 : (k : Int) < 32 := by omega
            have hbl : body.data.toList.length = body.size := Array.length_toList
            have htest := test_eq tn k
            by_cases hbit : tn.testBit k = true
            · rw [if_pos hbit] at htest
              have hb2 := Aside0.mk hbit
              clear hbit
              by_cases hin : (P : Int) + k < 8 * (body.size : Int)
              · have HL2 := Aside0.mk (LoopS.flip HL.out hb2.out (by rw [hbl]; omega))
                have hml : (P + k) / 8 < M.length := by rw [HL.out.1.1, hbl]; omega
                have hlen : (head8 kind body.size ++ M ++ u8s (nb (crcOf (strOfNums (frameHead kind body)).data.toList) 4)).length = 12 + body.size := by rw [List.length_append, List.length_append, head8_length, u8s_length, nb_length, HL.out.1.1, hbl]; omega
                have hcell := HRow.out (8 + (P + k) / 8) (by rw [hlen]; rw [HL.out.1.1, hbl] at hml; omega)
                have HRow2 := Aside0.mk (HRow.out.set (8 + (P + k) / 8) (M.getD ((P + k) / 8) 0 ^^^ UInt8.ofNat (2 ^ ((P + k) % 8))))
                have hmid := row_mid (H := head8 kind body.size) (M := M) (S := u8s (nb (crcOf (strOfNums (frameHead kind body)).data.toList) 4)) _ hml
                rw [head8_length] at hmid
                rw [hmid] at hcell
                have hset := row_set (H := head8 kind body.size) (M := M) (S := u8s (nb (crcOf (strOfNums (frameHead kind body)).data.toList) 4)) _ (M.getD ((P + k) / 8) 0 ^^^ UInt8.ofNat (2 ^ ((P + k) % 8))) hml
                rw [head8_length] at hset
                rw [hset] at HRow2
                have Hxor := Aside0.mk (xor_flip (M.getD ((P + k) / 8) 0) ((P + k) % 8) (Nat.mod_lt _ (by decide)))
                generalize M.getD ((P + k) / 8) 0 = cb at *
                have hc1 := hcell.1
                have hc2 := hcell.2
                have hfs : fs.size = 12 + body.size := by rw [HFS.out, strOfNums_size, List.length_append, frameHead_length, nb_length]; omega
                have hi1 : (0 : Int) ≤ 8 + ((P : Int) + k) / 8 := by omega
                have hi2 : 8 + ((P : Int) + k) / 8 < (fs.size : Int) := by omega
                have hq : (P + k) / 8 < body.size := by rw [← hbl, ← HL.out.1.1]; exact hml
                clear hcell hmid hset hlen hml hbl hfs
                go_wp2
                go_region
                go_wp2
                go_roundw
                case rel => exact ⟨k + 1, true, M.set ((P + k) / 8) (cb ^^^ UInt8.ofNat (2 ^ ((P + k) % 8))), by omega, by go_num, rfl, HL2, ⟨by rw [Hxor.out]; exact HRow2.out.drew⟩, ⟨below_drew1 (HBel.out.setCell (p := ⟨g, _, none⟩) Hge.out _)⟩⟩
                case measure => simp [intOf]; omega
              · have hin2 : 8 * (body.size : Int) ≤ (P : Int) + k := by omega
                have HL2 := Aside0.mk (LoopS.skip HL.out (.inr (by rw [hbl]; omega)))
                clear hbl hin
                go_wp2
                go_roundw
                case rel => exact ⟨k + 1, c, M, by omega, by go_num, rfl, HL2, HRow, HBel⟩
                case measure => simp [intOf]; omega
            · rw [if_neg hbit] at htest
              have HL2 := Aside0.mk (LoopS.skip HL.out (.inl (by simpa using hbit)))
              clear hbit hbl
              go_wp2
              go_roundw
              case rel => exact ⟨k + 1, c, M, by omega, by go_num, rfl, HL2, HRow, HBel⟩
              case measure => simp [intOf]; omega
          · obtain rfl : k = 32 := by omega
            have hbl : body.data.toList.length = body.size := Array.length_toList
            have hlen : (head8 kind body.size ++ M ++ u8s (nb (crcOf (strOfNums (frameHead kind body)).data.toList) 4)).length = 12 + body.size := by rw [List.length_append, List.length_append, head8_length, u8s_length, nb_length, HL.out.1.1, hbl]; omega
            have hfs : fs.size = 12 + body.size := by rw [HFS.out, strOfNums_size, List.length_append, frameHead_length, nb_length]; omega
            obtain ⟨L, hL⟩ : ∃ L, L = head8 kind body.size ++ M ++ u8s (nb (crcOf (strOfNums (frameHead kind body)).data.toList) 4) := ⟨_, rfl⟩
            have hrow := HRow.out
            rw [← hL] at hrow hlen
            have hcv := run_convert_bytes_arg (P := Try.prog) wr 64 5 Try.underlying64 Try.underlying5 g 0 fs.size (grownCap w2 fs.size 0 5) (L.map fun c => (c.toNat : Int)) (by rw [List.length_map, hlen, hfs]) (fun i hi => by
              have h := (hrow i (by rw [hlen, ← hfs]; exact hi)).1
              rw [Nat.zero_add, h, List.getD_eq_getElem?_getD, List.getD_eq_getElem?_getD, List.getElem?_map]
              rw [List.getElem?_eq_getElem (by rw [hlen, ← hfs]; exact hi)]; rfl) 9 Try.underlying9
            rw [row_str] at hcv
            have hun := loop_unf kind h0 h1 body Hsz.out tn P c M HL.out ⟨L.toArray⟩ hL
            obtain ⟨kk, hkk⟩ := (codec_unf (⟨L.toArray⟩ : ByteArray) (by show L.length ≤ _; rw [hlen]; have := Hsz.out; omega)).rounds
            rw [hun] at hkk
            have HKK := Aside0.mk hkk
            clear hrow hlen hfs hL hbl hkk hun hlt hk
            cases c with
            | true =>
              have HK2 := Aside0.mk (show PD.codec_Unframe.f kk ⟨L.toArray⟩ = some (0, ⟨#[]⟩, 0, 23) from HKK.out)
              go_wp2_with (go_at_call 30; refine (PD.codec_Unframe.calls kk _ 0 ⟨#[]⟩ 0 23 _ HK2.out).mono ?_)
              intro e w5
              first | (intro he hb5; subst he) | rintro ⟨rfl, hb5⟩
              have HB5 := Aside0.mk (HBel.out.trans (hb5.mono HBel.out.size))
              clear hb5
              go_wp2
              go_ret
              exact ⟨by simp, HB5.out⟩
            | false =>
              have HK2 := Aside0.mk (show PD.codec_Unframe.f kk ⟨L.toArray⟩ = some (kind, body, ((12 + body.size : Nat) : Int), 0) from HKK.out)
              go_wp2_with (go_at_call 30; refine (PD.codec_Unframe.calls kk _ kind body _ 0 _ HK2.out).mono ?_)
              intro e w5
              first | (intro he hb5; subst he) | rintro ⟨rfl, hb5⟩
              have HB5 := Aside0.mk (HBel.out.trans (hb5.mono HBel.out.size))
              clear hb5
              go_wp2
              go_ret
              exact ⟨by simp, HB5.out⟩
      · go_enter Try.func10, Try.ntmps10
        go_wp2_with (go_quiet (fail))
        go_wp2_with (go_at_call 34; refine (frame_any kind body _ h0 h1).mono ?_)
        rw [HR.out]
        rintro e w1 ⟨rfl, hb1⟩
        have HB1 := Aside0.mk ((pw_below_drewN HB0.out nq).trans (hb1.mono HB0.out.size))
        clear hb1
        go_wp2_with (go_at_call 11; refine (awake_any _).mono ?_)
        rintro e w2 ⟨rfl, hb2⟩
        have HB2 := Aside0.mk (HB1.out.trans (hb2.mono HB1.out.size))
        clear hb2
        have kb := print_bytes (P := Try.prog) 9 64 5 Try.underlying9 Try.underlying64 Try.underlying5 fs w2
        have Hrow := Aside0.mk (rowB_new w2 fs)
        have Hbel := Aside0.mk (bytes_below HB2.out HB2.out.size 5 fs)
        have Hge := Aside0.mk HB2.out.size
        generalize Lib.bytesWorld w2 5 fs = W3 at kb Hrow Hbel
        go_wp2
        generalize hE : at_.tmod (8 * (body.size : Int)) = p at *
        have hp0 : 0 ≤ p ∧ p < 8 * (body.size : Int) := by omega
        clear hE hp1 hp2 hneg
        obtain ⟨P, rfl⟩ := Int.eq_ofNat_of_zero_le hp0.1
        have hpD := hp0.2
        clear hp0
        generalize w2.heap.size = g at *
        have Hfl := Aside0.mk (show fs.data.toList = head8 kind body.size ++ body.data.toList ++ u8s (nb (crcOf (strOfNums (frameHead kind body)).data.toList) 4) by rw [HFS.out, u8s_str, u8s_append, frame_head8])
        obtain ⟨tn, rfl⟩ := Int.eq_ofNat_of_zero_le ht0
        go_loopw [11, 12] (fun ch iv wr => ∃ (k : Nat) (c : Bool) (M : List UInt8), k ≤ 32 ∧ iv = .int .i64 k ∧ ch = .bool c ∧ Aside0 (LoopS tn P body.data.toList k c M) ∧ Aside0 (RowB g (head8 kind body.size ++ M ++ u8s (nb (crcOf (strOfNums (frameHead kind body)).data.toList) 4)) wr) ∧ Aside0 (Below w.heap.size w wr)) (fun _ iv _ => 32 - (intOf iv).toNat)
        case atStart => exact ⟨0, false, body.data.toList, by decide, rfl, rfl, ⟨LoopS.zero _ _ _⟩, ⟨by rw [← Hfl.out]; exact Hrow.out⟩, Hbel⟩
        case round =>
          obtain ⟨k, c, M, hk, rfl, rfl, HL, HRow, HBel⟩ := hrel
          by_cases hlt : k < 32
          · have hk2 : (k : Int) < 32 := by omega
            have hbl : body.data.toList.length = body.size := Array.length_toList
            have htest := test_eq tn k
            by_cases hbit : tn.testBit k = true
            · rw [if_pos hbit] at htest
              have hb2 := Aside0.mk hbit
              clear hbit
              by_cases hin : (P : Int) + k < 8 * (body.size : Int)
              · have HL2 := Aside0.mk (LoopS.flip HL.out hb2.out (by rw [hbl]; omega))
                have hml : (P + k) / 8 < M.length := by rw [HL.out.1.1, hbl]; omega
                have hlen : (head8 kind body.size ++ M ++ u8s (nb (crcOf (strOfNums (frameHead kind body)).data.toList) 4)).length = 12 + body.size := by rw [List.length_append, List.length_append, head8_length, u8s_length, nb_length, HL.out.1.1, hbl]; omega
                have hcell := HRow.out (8 + (P + k) / 8) (by rw [hlen]; rw [HL.out.1.1, hbl] at hml; omega)
                have HRow2 := Aside0.mk (HRow.out.set (8 + (P + k) / 8) (M.getD ((P + k) / 8) 0 ^^^ UInt8.ofNat (2 ^ ((P + k) % 8))))
                have hmid := row_mid (H := head8 kind body.size) (M := M) (S := u8s (nb (crcOf (strOfNums (frameHead kind body)).data.toList) 4)) _ hml
                rw [head8_length] at hmid
                rw [hmid] at hcell
                have hset := row_set (H := head8 kind body.size) (M := M) (S := u8s (nb (crcOf (strOfNums (frameHead kind body)).data.toList) 4)) _ (M.getD ((P + k) / 8) 0 ^^^ UInt8.ofNat (2 ^ ((P + k) % 8))) hml
                rw [head8_length] at hset
                rw [hset] at HRow2
                have Hxor := Aside0.mk (xor_flip (M.getD ((P + k) / 8) 0) ((P + k) % 8) (Nat.mod_lt _ (by decide)))
                generalize M.getD ((P + k) / 8) 0 = cb at *
                have hc1 := hcell.1
                have hc2 := hcell.2
                have hfs : fs.size = 12 + body.size := by rw [HFS.out, strOfNums_size, List.length_append, frameHead_length, nb_length]; omega
                have hi1 : (0 : Int) ≤ 8 + ((P : Int) + k) / 8 := by omega
                have hi2 : 8 + ((P : Int) + k) / 8 < (fs.size : Int) := by omega
                have hq : (P + k) / 8 < body.size := by rw [← hbl, ← HL.out.1.1]; exact hml
                clear hcell hmid hset hlen hml hbl hfs
                go_wp2
                go_region
                go_wp2
                go_roundw
                case rel => exact ⟨k + 1, true, M.set ((P + k) / 8) (cb ^^^ UInt8.ofNat (2 ^ ((P + k) % 8))), by omega, by go_num, rfl, HL2, ⟨by rw [Hxor.out]; exact HRow2.out.drew⟩, ⟨below_drew1 (HBel.out.setCell (p := ⟨g, _, none⟩) Hge.out _)⟩⟩
                case measure => simp [intOf]; omega
              · have hin2 : 8 * (body.size : Int) ≤ (P : Int) + k := by omega
                have HL2 := Aside0.mk (LoopS.skip HL.out (.inr (by rw [hbl]; omega)))
                clear hbl hin
                go_wp2
                go_roundw
                case rel => exact ⟨k + 1, c, M, by omega, by go_num, rfl, HL2, HRow, HBel⟩
                case measure => simp [intOf]; omega
            · rw [if_neg hbit] at htest
              have HL2 := Aside0.mk (LoopS.skip HL.out (.inl (by simpa using hbit)))
              clear hbit hbl
              go_wp2
              go_roundw
              case rel => exact ⟨k + 1, c, M, by omega, by go_num, rfl, HL2, HRow, HBel⟩
              case measure => simp [intOf]; omega
          · obtain rfl : k = 32 := by omega
            have hbl : body.data.toList.length = body.size := Array.length_toList
            have hlen : (head8 kind body.size ++ M ++ u8s (nb (crcOf (strOfNums (frameHead kind body)).data.toList) 4)).length = 12 + body.size := by rw [List.length_append, List.length_append, head8_length, u8s_length, nb_length, HL.out.1.1, hbl]; omega
            have hfs : fs.size = 12 + body.size := by rw [HFS.out, strOfNums_size, List.length_append, frameHead_length, nb_length]; omega
            obtain ⟨L, hL⟩ : ∃ L, L = head8 kind body.size ++ M ++ u8s (nb (crcOf (strOfNums (frameHead kind body)).data.toList) 4) := ⟨_, rfl⟩
            have hrow := HRow.out
            rw [← hL] at hrow hlen
            have hcv := run_convert_bytes_arg (P := Try.prog) wr 64 5 Try.underlying64 Try.underlying5 g 0 fs.size (grownCap w2 fs.size 0 5) (L.map fun c => (c.toNat : Int)) (by rw [List.length_map, hlen, hfs]) (fun i hi => by
              have h := (hrow i (by rw [hlen, ← hfs]; exact hi)).1
              rw [Nat.zero_add, h, List.getD_eq_getElem?_getD, List.getD_eq_getElem?_getD, List.getElem?_map]
              rw [List.getElem?_eq_getElem (by rw [hlen, ← hfs]; exact hi)]; rfl) 9 Try.underlying9
            rw [row_str] at hcv
            have hun := loop_unf kind h0 h1 body Hsz.out tn P c M HL.out ⟨L.toArray⟩ hL
            obtain ⟨kk, hkk⟩ := (codec_unf (⟨L.toArray⟩ : ByteArray) (by show L.length ≤ _; rw [hlen]; have := Hsz.out; omega)).rounds
            rw [hun] at hkk
            have HKK := Aside0.mk hkk
            clear hrow hlen hfs hL hbl hkk hun hlt hk
            cases c with
            | true =>
              have HK2 := Aside0.mk (show PD.codec_Unframe.f kk ⟨L.toArray⟩ = some (0, ⟨#[]⟩, 0, 23) from HKK.out)
              go_wp2_with (go_at_call 30; refine (PD.codec_Unframe.calls kk _ 0 ⟨#[]⟩ 0 23 _ HK2.out).mono ?_)
              intro e w5
              first | (intro he hb5; subst he) | rintro ⟨rfl, hb5⟩
              have HB5 := Aside0.mk (HBel.out.trans (hb5.mono HBel.out.size))
              clear hb5
              go_wp2
              go_ret
              exact ⟨by simp, HB5.out⟩
            | false =>
              have HK2 := Aside0.mk (show PD.codec_Unframe.f kk ⟨L.toArray⟩ = some (kind, body, ((12 + body.size : Nat) : Int), 0) from HKK.out)
              go_wp2_with (go_at_call 30; refine (PD.codec_Unframe.calls kk _ kind body _ 0 _ HK2.out).mono ?_)
              intro e w5
              first | (intro he hb5; subst he) | rintro ⟨rfl, hb5⟩
              have HB5 := Aside0.mk (HBel.out.trans (hb5.mono HBel.out.size))
              clear hb5
              go_wp2
              go_ret
              exact ⟨by simp, HB5.out⟩
end Go.Proofs.Ytjlohahknngmmaa
namespace Go.Proofs.Ytjlohahknngmmaa
open Go Go.Proofs.YtjlohahknngmmaaW.PrintWords
set_option linter.unusedVariables false in
theorem turned_walk (cs : Array Value) (y : Ty.S63) (W : World) (hK : Ty.k63.K W y cs.toList) (ho : (Lit.int .u8 y.f0).wf = true ∧ y.f1.size ≤ 140737488351232 ∧ (Lit.int .i64 y.f2).wf = true ∧ (Lit.int .u32 y.f3).wf = true) :
    Calls Try.prog 10 #[.agg cs] W fun e w' => e = .returned (.bool true) ∧ Go.RowKit.Below W.heap.size W w' := by
  obtain ⟨a, b, c, d⟩ := y
  have hcs : cs = #[.int .u8 a, .string b, .int .i64 c, .int .u32 d] := by
    have h := Ty.k63_open hK
    apply Array.toList_inj.1
    exact h
  subst hcs
  obtain ⟨h1, h2, h3, h4⟩ := ho
  have e1 : 0 ≤ a ∧ a ≤ 255 := by simpa [Lit.wf, IntKind.min, IntKind.max, IntKind.signed, IntKind.bits] using h1
  have e3 : -9223372036854775808 ≤ c ∧ c ≤ 9223372036854775807 := by simpa [Lit.wf, IntKind.min, IntKind.max, IntKind.signed, IntKind.bits] using h3
  have e4 : 0 ≤ d ∧ d ≤ 4294967295 := by simpa [Lit.wf, IntKind.min, IntKind.max, IntKind.signed, IntKind.bits] using h4
  exact turned_any a b c d W e1.1 e1.2 e3.1 e3.2 e4.1 e4.2 h2
end Go.Proofs.Ytjlohahknngmmaa
