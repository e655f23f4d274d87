/- HttpPipes: its walk: what is printed, one behind the other, is parsed one by one. -/
import Derived.Test.YtckbcnmcnhahhaaDoorHpIs
import Derived.Test.YtckbcnmcnhahhaaDoorOpen
import Derived.BigRegion
import Derived.BigQuiet
namespace Go.Proofs.YtckbcnmcnhahhaaDoor.PI
open Go Go.RowKit Go.Proofs.YtckbcnmcnhahhaaDoor Go.Proofs.YtckbcnmcnhahhaaDoorW.PrintWords Go.Proofs.YtckbcnmcnhahhaaDoorW.PrintLast Go.Proofs.YtckbcnmcnhahhaaDoor.Pure
set_option linter.unusedVariables false
set_option linter.unusedSimpArgs false

abbrev RQ := S25
/-- Requests that read at a world that stays. -/
def kAt (w0 : World) : Kd RQ where
  sz := 5
  E := []
  K := fun _ x cs => k25.K w0 x cs
  M := fun _ _ _ x cs => k25.K w0 x cs
  K_len := fun h => k25.K_len h
  K_one := fun h => k25.K_one h
  K_below := fun _ h => h
  K_of_M := fun h => h
  M_mono := fun _ h => h
  M_bound := fun h => h
  M_move := fun _ h => h
  M_lower := fun _ h => h
/-- The rows that were taken so far. -/
structure PL (w0 : World) (v : Value) (xs : List RQ) (w : World) : Prop where
  ow : (kAt w0).R 25 w w0.heap.size (fun _ => True) v xs
  be : Below w0.heap.size w0 w
theorem PL.below {w0 w w1 : World} {v : Value} {xs : List RQ} (h : PL w0 v xs w) (hb : Below w.heap.size w w1) : PL w0 v xs w1 := ⟨Kd.R_below h.ow hb, h.be.trans (hb.mono h.be.size)⟩
def byX (x : RQ) : List UInt8 := bytesL x.f0 x.f1 x.f2 x.f3
def ckX (x : RQ) : Int := checkP x.f0 x.f1 x.f3 x.f4 x.f2
def good (x : RQ) : Bool := ckX x == 0
def allT (xs : List RQ) : ByteArray := ⟨(xs.flatMap byX).toArray⟩
def smallX (x : RQ) : Prop := (byX x).length ≤ 1073741824 ∧ x.f2.length < 1073741824 ∧ ∀ f ∈ x.f2, f.f0.size ≤ 140737488351232 ∧ f.f1.size ≤ 140737488351232
def goods (l : List RQ) (k : Nat) : List RQ := (l.take k).filter good
theorem rdX (l : List RQ) (k : Nat) (h : k < l.length) : rd_T25 l (k : Int) = l[k] := by
  unfold rd_T25
  rw [Int.toNat_natCast, List.getD_eq_getElem?_getD, List.getElem?_eq_getElem h]; rfl
theorem goods_snoc (l : List RQ) (k : Nat) (h : k < l.length) : goods l (k + 1) = if good (rd_T25 l (k : Int)) = true then goods l k ++ [rd_T25 l (k : Int)] else goods l k := by
  unfold goods
  rw [List.take_succ_eq_append_getElem h, List.filter_append, rdX l k h]
  by_cases hg : good l[k] = true
  · rw [if_pos hg, List.filter_cons_of_pos hg]; rfl
  · rw [if_neg hg, List.filter_cons_of_neg hg]; simp
theorem flat_le (p : RQ → Bool) : ∀ l : List RQ, ((l.filter p).flatMap byX).length ≤ (l.flatMap byX).length
  | [] => Nat.le_refl _
  | x :: l => by
    have := flat_le p l
    by_cases hp : p x = true
    · rw [List.filter_cons_of_pos hp, List.flatMap_cons, List.flatMap_cons, List.length_append, List.length_append]; omega
    · rw [List.filter_cons_of_neg hp, List.flatMap_cons, List.length_append]; omega
theorem goods_len (l : List RQ) (k : Nat) : ((goods l k).flatMap byX).length ≤ (l.flatMap byX).length ∧ (goods l k).length ≤ l.length := by
  constructor
  · refine Nat.le_trans (flat_le good _) ?_
    conv => rhs; rw [← List.take_append_drop k l]
    rw [List.flatMap_append, List.length_append]; omega
  · exact Nat.le_trans (List.length_filter_le _ _) (by rw [List.length_take]; omega)
theorem allT_size (xs : List RQ) : (allT xs).size = (xs.flatMap byX).length := List.size_toArray
theorem allT_snoc (xs : List RQ) (x : RQ) : allT xs ++ ⟨(byX x).toArray⟩ = allT (xs ++ [x]) := by
  apply row_data_inj
  unfold allT
  rw [str_app, toArr, toArr, toArr, List.flatMap_append]
  simp
theorem cell_db {w wx : World} (hb : Below w.drew.heap.size w.drew wx) {p : Addr} {v : Value} (h : w.cell? p = some v) : wx.cell? p = some v := by
  have hb2 : Below w.heap.size w w.drew := below_drew1 (Below.refl w.heap.size w)
  have h1 : w.drew.cell? p = some v := (hb2.cell (World.block_lt_of_cell? w _ h)).trans h
  exact (hb.cell (World.block_lt_of_cell? _ _ h1)).trans h1
theorem infoReq : (Tryd.prog.info? 25).map (fun i => (i.zero, i.size, i.bytes)) = some (some (.agg #[.string ⟨#[]⟩, .string ⟨#[]⟩, .slice none 0 0, .string ⟨#[]⟩, .bool false]), 5, 80) := by kernel_rfl
theorem lives_k : ∃ k, atriumlaw17_lives.f k = some true := lives_ev.rounds
set_option maxHeartbeats 8000000 in
set_option maxRecDepth 100000 in
theorem pipes_any (A : Option Addr) (c : Nat) (l : List RQ) (bh : ByteArray) (w : World) (hC : Kd.C k25 w A l.length l) (hcl : l.length ≤ c) (hs : ∀ x ∈ l, smallX x) (hz : (l.flatMap byX).length + bh.size ≤ 1073741824) (hlen : l.length ≤ 1073741824) (hm_ : MX w) :
    Calls Tryd.prog 7 #[.slice A l.length c, .string bh] w fun e w' => e = .returned (.bool true) ∧ Below w.heap.size w w' := by
  have hu := Tryd.underlying25
  obtain ⟨K0, hK0⟩ := lives_k
  have HK0 := Aside0.mk hK0
  have HC := Aside0.mk hC
  have Hcl := Aside0.mk hcl
  have HS := Aside0.mk hs
  have HZ := Aside0.mk hz
  have HMX := Aside0.mk hm_
  clear hK0 hC hcl hs hz hm_
  go_enter Tryd.func7, Tryd.ntmps7
  go_wp2_with fail
  refine (atriumlaw17_lives.calls K0 true w HK0.out HMX.out).mono ?_
  rintro e w1 ⟨rfl, hb1⟩
  have HB1 := Aside0.mk hb1
  clear hb1
  go_wp2
  have HP := Aside0.mk (show PL w (.slice none 0 0) (goods l 0) w1 from ⟨Kd.R_nil _ _ _ _ _, HB1.out⟩)
  go_loopw [5, 6, 7] (fun av wv iv wr => ∃ (k : Nat), k ≤ l.length ∧ iv = .int .i64 k ∧ av = .string (allT (goods l k)) ∧ Aside0 (PL w wv (goods l k) wr)) (fun _ _ iv _ => l.length - (intOf iv).toNat)
  case atStart => exact ⟨0, Nat.zero_le _, rfl, rfl, HP⟩
  case round =>
    clear HP HB1
    obtain ⟨k, hk, rfl, rfl, HP⟩ := hrel
    by_cases hlt : k < l.length
    · obtain ⟨ad, A2, c2, rfl, c0, c1, c2_, c3, c4, l2, g2⟩ := at_T25 HC.out (k : Int) (by omega) (by omega)
      have hsn := goods_snoc l k hlt
      have hsx : smallX (rd_T25 l (k : Int)) := by rw [rdX l k hlt]; exact HS.out _ (List.getElem_mem hlt)
      obtain ⟨g1, g2'⟩ := goods_len l (k + 1)
      rw [Int.toNat_natCast] at c0 c1 c2_ c3 c4
      replace c0 := (HP.out.be.cell (World.block_lt_of_cell? w _ c0)).trans c0
      replace c1 := (HP.out.be.cell (World.block_lt_of_cell? w _ c1)).trans c1
      replace c2_ := (HP.out.be.cell (World.block_lt_of_cell? w _ c2_)).trans c2_
      replace c3 := (HP.out.be.cell (World.block_lt_of_cell? w _ c3)).trans c3
      replace c4 := (HP.out.be.cell (World.block_lt_of_cell? w _ c4)).trans c4
      have hgl := goods_len l k
      generalize rd_T25 l (k : Int) = X at *
      have hck : good X = (ckX X == 0) := rfl
      have hpv : printP X.f0 X.f1 X.f3 X.f4 X.f2 = if ckX X = 0 then (⟨(byX X).toArray⟩, 0) else (⟨#[]⟩, ckX X) := rfl
      obtain ⟨K, hK⟩ := (print_ev X.f0 X.f1 X.f3 X.f4 X.f2 hsx.1 (by have := hsx.2.1; omega) hsx.2.2).rounds
      rw [hpv] at hK
      have hbx : (⟨(byX X).toArray⟩ : ByteArray).size = (byX X).length := List.size_toArray
      have Hg2 := Aside0.mk g2
      have Hl2 := Aside0.mk l2
      clear hpv l2 g2
      cases hgd : good X with
      | true =>
        have h0 : ckX X = 0 := by rw [hgd] at hck; exact beq_iff_eq.1 hck.symm
        rw [if_pos h0] at hK
        rw [hgd, if_pos rfl] at hsn
        have hfit : (allT (goods l k)).size + (⟨(byX X).toArray⟩ : ByteArray).size ≤ 1073741824 := by
          rw [allT_size, hbx]
          have := HZ.out
          rw [hsn, List.flatMap_append, List.length_append] at g1
          simp only [List.flatMap_cons, List.flatMap_nil, List.append_nil] at g1
          omega
        have HK := Aside0.mk hK
        have Hsn := Aside0.mk hsn
        have Hbx := Aside0.mk (show allT (goods l k) ++ ⟨(byX X).toArray⟩ = allT (goods l (k + 1)) by rw [hsn]; exact allT_snoc _ _)
        have Hkl := Aside0.mk (show ((goods l k).length + 1) * 80 ≤ 140737488355328 by have := hgl.2; omega)
        generalize (⟨(byX X).toArray⟩ : ByteArray) = BX at *
        have y1 : (allT (goods l k)).size + BX.size ≤ 281474976710656 := by omega
        clear hK hsn hfit hbx h0 hck hgd g1 g2' hgl hsx
        go_wp2_with fail
        refine (http_Print.calls K X.f0 X.f1 A2 c2 X.f2 X.f3 X.f4 BX 0 _ (Kd.C_below Hg2.out HP.out.be) Hl2.out HK.out).mono ?_
        rintro e w2 ⟨rfl, hb2⟩
        have HP2 := Aside0.mk (HP.out.below hb2)
        have d0 := (hb2.cell (World.block_lt_of_cell? wr _ c0)).trans c0
        have d1 := (hb2.cell (World.block_lt_of_cell? wr _ c1)).trans c1
        have d2 := (hb2.cell (World.block_lt_of_cell? wr _ c2_)).trans c2_
        have d3 := (hb2.cell (World.block_lt_of_cell? wr _ c3)).trans c3
        have d4 := (hb2.cell (World.block_lt_of_cell? wr _ c4)).trans c4
        clear hb2 c0 c1 c2_ c3 c4 HP
        go_wp2_with ((with_reducible refine gate_builtin (b := .append) (xs := #[.tmp 35, .tmp 40]) rfl ?_); at_builtin; refine Kd.R_append (kAt w) (w0 := w) w.heap.size rfl (.tmp 35) (.tmp 40) 42 25 (.agg #[.string ⟨#[]⟩, .string ⟨#[]⟩, .slice none 0 0, .string ⟨#[]⟩, .bool false]) 80 rfl Tryd.underlying42 infoReq rfl (Nat.succ_pos 4) (by decide) _ (goods l k) X [.string X.f0, .string X.f1, .slice A2 X.f2.length c2, .string X.f3, .bool X.f4] (fun _ => True) (fun _ => False) rfl rfl (k25_mk w X Hl2.out Hg2.out) (fun _ hk => hk.elim) (fun _ _ => trivial) HP2.out.ow HP2.out.be HP2.out.be.size Hkl.out ?_)
        intro v1 w3 ho hb hg hat
        have HP3 := Aside0.mk (show PL w v1 (goods l (k + 1)) w3 from ⟨by rw [Hsn.out]; exact ho, hb⟩)
        clear ho hb hg hat HP2 d0 d1 d2 d3 d4
        go_wp2
        go_roundw
        case rel => exact ⟨k + 1, by omega, by go_num, by rw [Hbx.out], HP3⟩
        case measure => simp [intOf]; omega
      | false =>
        have h0 : ¬ ckX X = 0 := by rw [hgd] at hck; exact beq_eq_false_iff_ne.1 hck.symm
        rw [if_neg h0] at hK
        rw [hgd, if_neg Bool.false_ne_true] at hsn
        have HK := Aside0.mk hK
        have Hsn := Aside0.mk hsn
        have hne : (ckX X == 0) = false := beq_eq_false_iff_ne.2 h0
        generalize ckX X = E at *
        clear hK hsn hbx h0 hck hgd g1 g2' hgl hsx
        go_wp2_with fail
        refine (http_Print.calls K X.f0 X.f1 A2 c2 X.f2 X.f3 X.f4 ⟨#[]⟩ E _ (Kd.C_below Hg2.out HP.out.be) Hl2.out HK.out).mono ?_
        rintro e w2 ⟨rfl, hb2⟩
        have HP2 := Aside0.mk (HP.out.below hb2)
        clear hb2 c0 c1 c2_ c3 c4 HP
        go_wp2
        go_roundw
        case rel => exact ⟨k + 1, by omega, by go_num, by rw [Hsn.out], by rw [Hsn.out]; exact HP2⟩
        case measure => simp [intOf]; omega
    · obtain rfl : k = l.length := by omega
      have hgl := goods_len l l.length
      have hall : ∀ x ∈ goods l l.length, ckX x = 0 ∧ smallX x := fun x hx => by
        unfold goods at hx
        obtain ⟨h1, h2⟩ := List.mem_filter.1 hx
        exact ⟨beq_iff_eq.1 h2, HS.out x (List.mem_of_mem_take h1)⟩
      have Hall := Aside0.mk hall
      have Hsz := Aside0.mk (show ((goods l l.length).flatMap byX).length + bh.size ≤ 1073741824 by have := HZ.out; omega)
      have hxl : (goods l l.length).length ≤ 1073741824 := by omega
      clear hall hgl
      generalize goods l l.length = xs at *
      have y1 : (allT xs).size + bh.size ≤ 281474976710656 := by rw [allT_size]; have := Hsz.out; omega
      obtain ⟨A6, c6, rfl, l6, _⟩ := Kd.R_reads HP.out.ow
      go_wp2
      go_loopw [5, 10] (fun av iv wr => ∃ j : Nat, j ≤ xs.length ∧ iv = .int .i64 j ∧ av = .string (allT (xs.drop j) ++ bh) ∧ Aside0 (PL w (.slice A6 xs.length c6) xs wr)) (fun _ iv _ => xs.length - (intOf iv).toNat)
      case atStart => exact ⟨0, Nat.zero_le _, rfl, by rw [List.drop_zero], HP⟩
      case round =>
        clear HP y1
        obtain ⟨j, hj, rfl, rfl, HP⟩ := hrel
        by_cases hlt : j < xs.length
        · obtain ⟨hx1, hx2⟩ := Hall.out xs[j] (List.getElem_mem hlt)
          have hdr : xs.drop j = xs[j] :: xs.drop (j + 1) := List.drop_eq_getElem_cons hlt
          have hpt : allT (xs.drop j) ++ bh = ⟨(byX xs[j]).toArray⟩ ++ (allT (xs.drop (j + 1)) ++ bh) := by
            apply row_data_inj
            rw [hdr]
            simp only [str_app, allT, toArr, List.flatMap_cons, List.append_assoc]
          have hds : ((xs.drop j).flatMap byX).length ≤ (xs.flatMap byX).length := by
            conv => rhs; rw [← List.take_append_drop j xs]
            rw [List.flatMap_append, List.length_append]; omega
          have hTs : (allT (xs.drop j) ++ bh).size ≤ 1073741824 := by rw [ByteArray.size_append, allT_size]; have := Hsz.out; omega
          obtain ⟨K, hK⟩ := (parse_ev (allT (xs.drop j) ++ bh) (by omega)).rounds
          have hpb : parseP (⟨(byX xs[j]).toArray⟩ ++ (allT (xs.drop (j + 1)) ++ bh)) = (xs[j].f0, xs[j].f1, xs[j].f2, xs[j].f3, xs[j].f4, ((⟨(byX xs[j]).toArray⟩ : ByteArray).size : Int), 0) := parse_back xs[j].f0 xs[j].f1 xs[j].f3 (allT (xs.drop (j + 1)) ++ bh) xs[j].f4 xs[j].f2 hx1
          rw [show parseP (allT (xs.drop j) ++ bh) = _ from (congrArg parseP hpt).trans hpb] at hK
          have hcut : (allT (xs.drop j) ++ bh).extract ((⟨(byX xs[j]).toArray⟩ : ByteArray).size) (allT (xs.drop j) ++ bh).size = allT (xs.drop (j + 1)) ++ bh := by
            rw [hpt]
            apply row_data_inj
            rw [ByteArray.data_extract, Array.toList_extract, List.extract_eq_take_drop, str_app, toArr]
            have e1 : (⟨(byX xs[j]).toArray⟩ : ByteArray).size = (byX xs[j]).length := List.size_toArray
            rw [e1, List.drop_left, List.take_of_length_le]
            rw [ByteArray.size_append, e1]
            have : (allT (xs.drop (j + 1)) ++ bh).data.toList.length = (allT (xs.drop (j + 1)) ++ bh).size := Array.length_toList
            omega
          have hns : (⟨(byX xs[j]).toArray⟩ : ByteArray).size ≤ (allT (xs.drop j) ++ bh).size := by rw [hpt, ByteArray.size_append]; omega
          have hn1 : 12 ≤ (⟨(byX xs[j]).toArray⟩ : ByteArray).size := by
            have e1 : (⟨(byX xs[j]).toArray⟩ : ByteArray).size = (byX xs[j]).length := List.size_toArray
            have e2 : (byX xs[j]).length = _ := bytesL_len xs[j].f0 xs[j].f1 xs[j].f3 xs[j].f2
            have e3 := upB_ge xs[j].f0 xs[j].f1 xs[j].f2
            omega
          obtain ⟨K2, hK2⟩ := (same_ev xs[j].f0 xs[j].f1 xs[j].f3 xs[j].f4 xs[j].f2 (by have := hx2.2.1; omega)).rounds
          obtain ⟨_, _, hCx⟩ := Kd.R_reads' HP.out.ow
          obtain ⟨ad2, cs, rfl, hcl, hKx, hc0⟩ := Kd.C_get hCx z25 (j : Int) (by omega) (by omega)
          rw [Int.toNat_natCast] at hKx hc0
          have hgd : xs.getD j z25 = xs[j] := by rw [List.getD_eq_getElem?_getD, List.getElem?_eq_getElem hlt]; rfl
          rw [hgd] at hKx
          replace hKx : k25.K w xs[j] cs := hKx
          replace hc0 : ∀ (i : Nat) (u : Value), cs[i]? = some u → wr.cell? (ad2.add (j * 5 + i)) = some u := hc0
          generalize xs[j] = X at *
          generalize (⟨(byX X).toArray⟩ : ByteArray).size = n at *
          generalize hT : allT (xs.drop j) ++ bh = T at *
          generalize hT2 : allT (xs.drop (j + 1)) ++ bh = T2 at *
          obtain ⟨A2, c2, rfl, l2, g2⟩ := k25_open hKx
          have c0 : wr.cell? (ad2.add (j * 5)) = some (.string X.f0) := hc0 0 _ rfl
          have c1 : wr.cell? ⟨(ad2.add (j * 5)).block, (ad2.add (j * 5)).off + 1, none⟩ = some (.string X.f1) := by rw [← add_field _ _ 1 (by omega)]; exact hc0 1 _ rfl
          have c2_ : wr.cell? ⟨(ad2.add (j * 5)).block, (ad2.add (j * 5)).off + 2, none⟩ = some (.slice A2 X.f2.length c2) := by rw [← add_field _ _ 2 (by omega)]; exact hc0 2 _ rfl
          have c3 : wr.cell? ⟨(ad2.add (j * 5)).block, (ad2.add (j * 5)).off + 3, none⟩ = some (.string X.f3) := by rw [← add_field _ _ 3 (by omega)]; exact hc0 3 _ rfl
          have c4 : wr.cell? ⟨(ad2.add (j * 5)).block, (ad2.add (j * 5)).off + 4, none⟩ = some (.bool X.f4) := by rw [← add_field _ _ 4 (by omega)]; exact hc0 4 _ rfl
          have HK := Aside0.mk hK
          have HK2 := Aside0.mk hK2
          have Hcut := Aside0.mk hcut
          have HT2 := Aside0.mk hT2
          have Hg2 := Aside0.mk g2
          have Hl2 := Aside0.mk l2
          have HCX := Aside0.mk hc0
          have Hmx := Aside0.mk (mxk HMX.out HP.out.be)
          have q1 : (0 : Int) ≤ (n : Int) := by omega
          have q2 : (n : Int) ≤ (T.size : Int) := by omega
          have q3 : ¬ (n : Int) < 1 := by omega
          have q4 : ¬ (T.size : Int) < (n : Int) := by omega
          have q7 : decide ((n : Int) < 1) = false := decide_eq_false q3
          have q8 : decide ((T.size : Int) < (n : Int)) = false := decide_eq_false q4
          have q5 : (j : Int) < (xs.length : Int) := by omega
          have q6 : (0 : Int) ≤ (j : Int) := by omega
          have Hn := Aside0.mk (show ((n : Int)).toNat = n by omega)
          clear q3 q4 hK hK2 hcut hpt hpb hx1 hx2 hdr hds hns hn1 g2 l2 hKx hgd hcl hc0 hT hT2
          go_wp2_with fail
          refine (http_Parse.calls K T X.f0 X.f1 X.f2 X.f3 X.f4 (n : Int) 0 _ HK.out Hmx.out).mono ?_
          rintro e w2 ⟨v2, rfl, hR, hb2⟩
          obtain ⟨A3, c3', rfl, l3, g3⟩ := Kd.R_reads hR
          have Hg3 := Aside0.mk g3
          have Hl3 := Aside0.mk l3
          have HP2 := Aside0.mk (HP.out.below hb2)
          have d0 := (hb2.cell (World.block_lt_of_cell? wr _ c0)).trans c0
          have d1 := (hb2.cell (World.block_lt_of_cell? wr _ c1)).trans c1
          have d2 := (hb2.cell (World.block_lt_of_cell? wr _ c2_)).trans c2_
          have d3 := (hb2.cell (World.block_lt_of_cell? wr _ c3)).trans c3
          have d4 := (hb2.cell (World.block_lt_of_cell? wr _ c4)).trans c4
          clear hR hb2 c0 c1 c2_ c3 c4 HP l3 g3
          have hbx : Below w2.heap.size w2 (w2.alloc (.cells #[.string X.f0, .string X.f1, .slice A3 X.f2.length c3', .string X.f3, .bool X.f4] 25)) := (Below.refl _ _).alloc (Nat.le_refl _) _
          have HP3 := Aside0.mk (HP2.out.below hbx)
          have hg5 := heap_alloc_new w2 (.cells #[.string X.f0, .string X.f1, .slice A3 X.f2.length c3', .string X.f3, .bool X.f4] 25)
          replace d0 := (hbx.cell (World.block_lt_of_cell? w2 _ d0)).trans d0
          replace d1 := (hbx.cell (World.block_lt_of_cell? w2 _ d1)).trans d1
          replace d2 := (hbx.cell (World.block_lt_of_cell? w2 _ d2)).trans d2
          replace d3 := (hbx.cell (World.block_lt_of_cell? w2 _ d3)).trans d3
          replace d4 := (hbx.cell (World.block_lt_of_cell? w2 _ d4)).trans d4
          have Hg4 := Aside0.mk (Kd.C_below Hg3.out hbx)
          clear hbx HP2 Hg3
          generalize hw5 : w2.alloc (.cells #[.string X.f0, .string X.f1, .slice A3 X.f2.length c3', .string X.f3, .bool X.f4] 25) = w5 at *
          have Hw5 := Aside0.mk hw5
          obtain ⟨gf, hgf⟩ : ∃ gf, w2.heap.size = gf := ⟨_, rfl⟩
          rw [hgf] at hg5
          have Hgf := Aside0.mk hgf
          clear hw5 hgf
          have b0 : w5.cell? ⟨gf, 0, none⟩ = some (.string X.f0) := (blk_cell hg5 0).trans rfl
          have b1 : w5.cell? ⟨gf, 1, none⟩ = some (.string X.f1) := (blk_cell hg5 1).trans rfl
          have b2 : w5.cell? ⟨gf, 2, none⟩ = some (.slice A3 X.f2.length c3') := (blk_cell hg5 2).trans rfl
          have b3 : w5.cell? ⟨gf, 3, none⟩ = some (.string X.f3) := (blk_cell hg5 3).trans rfl
          have b4 : w5.cell? ⟨gf, 4, none⟩ = some (.bool X.f4) := (blk_cell hg5 4).trans rfl
          clear hg5
          go_upto_region 17 with fail
          rw [Hw5.out, Hgf.out]
          go_region_held3 (fun w' => w'.cell? ⟨gf, 0, none⟩ = some (.string X.f0) ∧ w'.cell? ⟨gf, 1, none⟩ = some (.string X.f1) ∧ w'.cell? ⟨gf, 2, none⟩ = some (.slice A3 X.f2.length c3') ∧ w'.cell? ⟨gf, 3, none⟩ = some (.string X.f3) ∧ w'.cell? ⟨gf, 4, none⟩ = some (.bool X.f4) ∧ w'.cell? (ad2.add (j * 5)) = some (.string X.f0) ∧ w'.cell? ⟨(ad2.add (j * 5)).block, (ad2.add (j * 5)).off + 1, none⟩ = some (.string X.f1) ∧ w'.cell? ⟨(ad2.add (j * 5)).block, (ad2.add (j * 5)).off + 2, none⟩ = some (.slice A2 X.f2.length c2) ∧ w'.cell? ⟨(ad2.add (j * 5)).block, (ad2.add (j * 5)).off + 3, none⟩ = some (.string X.f3) ∧ w'.cell? ⟨(ad2.add (j * 5)).block, (ad2.add (j * 5)).off + 4, none⟩ = some (.bool X.f4)) (first | exact ⟨b0, b1, b2, b3, b4, d0, d1, d2, d3, d4⟩ | exact ⟨i0, i1, i2, i3, i4, e0, e1, e2, e3, e4⟩ | go_keep) ((go_at_call 10; refine (atriumlaw17_Same.calls K2 X.f0 X.f1 A3 c3' X.f2 X.f3 X.f4 X.f0 X.f1 A2 c2 X.f2 X.f3 X.f4 true _ (Kd.C_below Hg4.out (below_drew1 (Below.refl _ _))) Hl3.out (Kd.C_below Hg2.out (HP3.out.below (below_drew1 (Below.refl _ _))).be) Hl2.out HK2.out).mono ?_; rintro e wx ⟨rfl, hb⟩; have HP4 := Aside0.mk ((HP3.out.below (below_drew1 (Below.refl _ _))).below hb); have i0 := cell_db hb b0; have i1 := cell_db hb b1; have i2 := cell_db hb b2; have i3 := cell_db hb b3; have i4 := cell_db hb b4; have e0 := cell_db hb d0; have e1 := cell_db hb d1; have e2 := cell_db hb d2; have e3 := cell_db hb d3; have e4 := cell_db hb d4; clear hb))
          clear b0 b1 b2 b3 b4 d0 d1 d2 d3 d4
          go_wp2
          go_roundw
          case rel => exact ⟨j + 1, by omega, by go_num, by rw [Hcut.out, HT2.out], HP4⟩
          case measure => simp [intOf]; omega
        · obtain rfl : j = xs.length := by omega
          have he : allT (xs.drop xs.length) ++ bh = bh := by
            apply row_data_inj
            rw [List.drop_length, str_app]
            rfl
          rw [he]
          go_wp2
          go_ret
          exact ⟨rfl, HP.out.be⟩
theorem lwtF_len (l : List S50) : l.length ≤ Opn.lwt (fun x : S50 => ((x.f0.size + 1) + ((x.f1.size + 1))) + 1) l := by
  induction l with
  | nil => simp [Opn.lwt]
  | cons x l ih =>
    unfold Opn.lwt
    rw [List.length_cons]; omega
theorem upB_wt (m t : ByteArray) (l : List S50) : (upB m t l).length ≤ m.size + t.size + 12 + 4 * Opn.lwt (fun x : S50 => ((x.f0.size + 1) + ((x.f1.size + 1))) + 1) l := by
  unfold upB
  rw [List.length_append, headB_len]
  have : ∀ l : List S50, (l.flatMap fieldB).length ≤ 4 * Opn.lwt (fun x : S50 => ((x.f0.size + 1) + ((x.f1.size + 1))) + 1) l := by
    intro l
    induction l with
    | nil => simp [Opn.lwt]
    | cons f l ih =>
      rw [List.flatMap_cons, List.length_append, fieldB_len]
      unfold Opn.lwt
      omega
  have := this l
  omega
abbrev wtX (x : RQ) : Nat := ((x.f0.size + 1) + ((x.f1.size + 1) + ((Opn.lwt (fun x : S50 => ((x.f0.size + 1) + ((x.f1.size + 1))) + 1) x.f2 + 1) + ((x.f3.size + 1) + (1))))) + 1
theorem byX_wt (x : RQ) : (byX x).length ≤ 14 * wtX x := by
  have h1 := upB_wt x.f0 x.f1 x.f2
  have h2 : (byX x).length = _ := bytesL_len x.f0 x.f1 x.f3 x.f2
  unfold wtX
  omega
theorem lwtX_mem (l : List RQ) : ∀ x ∈ l, wtX x ≤ Opn.lwt wtX l := by
  induction l with
  | nil => intro f hf; cases hf
  | cons x l ih =>
    intro f hf
    unfold Opn.lwt
    rcases List.mem_cons.1 hf with rfl | hf
    · omega
    · have := ih f hf; omega
theorem lwtX_flat (l : List RQ) : (l.flatMap byX).length ≤ 14 * Opn.lwt wtX l ∧ l.length ≤ Opn.lwt wtX l := by
  induction l with
  | nil => exact ⟨Nat.zero_le _, Nat.zero_le _⟩
  | cons x l ih =>
    have := byX_wt x
    have h1 : 1 ≤ wtX x := by unfold wtX; omega
    rw [List.flatMap_cons, List.length_append, List.length_cons]
    unfold Opn.lwt
    omega
theorem pipes_walk (A : Option Addr) (c : Nat) (l : List RQ) (bh : ByteArray) (W : World) (hC : Kd.C k25 W A l.length l) (hL : l.length ≤ c)
    (ho : l.length * 80 ≤ 140737488351232 ∧ ∀ x ∈ l, x.f0.size ≤ 140737488351232 ∧ x.f1.size ≤ 140737488351232 ∧ (x.f2.length * 32 ≤ 140737488351232 ∧ ∀ f ∈ x.f2, f.f0.size ≤ 140737488351232 ∧ f.f1.size ≤ 140737488351232) ∧ x.f3.size ≤ 140737488351232 ∧ True)
    (hn : bh.size ≤ 140737488351232) (hb : (Opn.lwt wtX l + 1) + (bh.size + 1) ≤ 1048576) (hm_ : MX W) :
    Calls Tryd.prog 7 #[.slice A l.length c, .string bh] W fun e w' => e = .returned (.bool true) ∧ Below W.heap.size W w' := by
  obtain ⟨h1, h2⟩ := lwtX_flat l
  refine pipes_any A c l bh W hC hL (fun x hx => ?_) (by omega) (by omega) hm_
  have h3 := lwtX_mem l x hx
  have h4 := byX_wt x
  have h5 := lwtF_len x.f2
  have h6 : Opn.lwt (fun x : S50 => ((x.f0.size + 1) + ((x.f1.size + 1))) + 1) x.f2 ≤ wtX x := by unfold wtX; omega
  exact ⟨by omega, by omega, (ho.2 x hx).2.2.1.2⟩
end Go.Proofs.YtckbcnmcnhahhaaDoor.PI
