/- vfs: a turn on a directory. -/
import Derived.Test.YtamhecmopnekjaaVfAA
import Derived.Maps.OwnOps
import Derived.StringKeys
import Derived.Test.YtamhecmopnekjaaOwnG
import Derived.Test.YtamhecmopnekjaaClo
import Derived.Maps.OwnSet
import Derived.Lib.SliceRun
import Derived.Maps.AppendAt
namespace Go.Proofs.Ytamhecmopnekjaa.Vf
open Go Go.RowKit Go.Maps Go.Proofs.Ytamhecmopnekjaa Go.Proofs.YtamhecmopnekjaaW.PrintWords
set_option linter.unusedVariables false
set_option linter.unusedSimpArgs false

/-- The file of a name. -/
def look (D : Dt) (s : ByteArray) : Option Nat := match D.atKey (key s) .nil with | .lit (.int .i64 n) => some n.toNat | _ => none
theorem look_none {D : Dt} {s : ByteArray} (h : Maps.has D (key s) = false) : look D s = none := by
  unfold look
  rw [Maps.atKey_of_not_has h]
theorem look_fD {D : Dt} {s : ByteArray} {f : Nat} (h : D.atKey (key s) .nil = fD f) : look D s = some f := by
  unfold look
  rw [h]
  show some (Int.toNat (f : Int)) = _
  rw [Int.toNat_natCast]
theorem look_some {D : Dt} {fb : List Nat} {s : ByteArray} (hN : Named D fb) (h : Maps.has D (key s) = true) : ∃ f ∈ fb, look D s = some f ∧ ∀ z, D.atKey (key s) z = fD f := by
  obtain ⟨f, hf, he⟩ := hN _ .nil h
  refine ⟨f, hf, look_fD he, fun z => ?_⟩
  obtain ⟨f', _, he'⟩ := hN _ z h
  have h1 : D.atKey (key s) z = D.atKey (key s) .nil := by
    have hh := h
    unfold DataW.atKey at *
    cases D with
    | map es =>
      rw [Maps.has_eq] at hh
      have : (es.find? fun p => p.1.sameKey (key s)).isSome = true := by rw [List.find?_isSome]; simpa using hh
      obtain ⟨p, hp⟩ := Option.isSome_iff_exists.1 this
      simp only [hp]
    | _ => cases hh
  rw [h1, he]
theorem look_has {D : Dt} {fb : List Nat} {s : ByteArray} (hN : Named D fb) : Maps.has D (key s) = (look D s).isSome := by
  cases h : Maps.has D (key s) with
  | true => obtain ⟨f, _, e, _⟩ := look_some hN h; rw [e]; rfl
  | false => rw [look_none h]; rfl
theorem look_mem {D : Dt} {fb : List Nat} {s : ByteArray} {f : Nat} (hN : Named D fb) (h : look D s = some f) : f ∈ fb ∧ Maps.has D (key s) = true ∧ ∀ z, D.atKey (key s) z = fD f := by
  have hh : Maps.has D (key s) = true := by rw [look_has hN, h]; rfl
  obtain ⟨f', hf, e, ha⟩ := look_some hN hh
  rw [h] at e
  injection e with e
  subst e
  exact ⟨hf, hh, ha⟩
theorem ptr_of_rdF {D : Dt} {fb : List Nat} {s : ByteArray} {v : Value} {ps : List MemPlace} (hN : Named D fb) (h : rdF v = some (D.atKey (key s) .nil, ps)) : v = ptrV (look D s) := by
  cases hh : Maps.has D (key s) with
  | true =>
    obtain ⟨f, _, e, ha⟩ := look_some hN hh
    rw [ha] at h
    rw [e]
    rcases rdF_inv h with ⟨rfl, hz⟩ | ⟨b, rfl, hz⟩
    · injection hz with hz _
      cases hz
    · injection hz with hz _
      have : (f : Int) = (b : Int) := by
        unfold fD at hz
        injection hz with hz
        injection hz
      have : f = b := by omega
      subst this
      rfl
  | false =>
    rw [Maps.atKey_of_not_has hh] at h
    rw [look_none hh]
    rcases rdF_inv h with ⟨rfl, hz⟩ | ⟨b, rfl, hz⟩
    · rfl
    · injection hz with hz _
      cases hz
section
variable {w : World} {b n : Nat} {D : Dt} {fb : List Nat} {s : ByteArray}
theorem run_look (how : w.ownsMap Try.prog 9 rdF b n D) (hN : Named D fb) (hs : s.size ≤ maxLen) : (Instr.lookup 69 (.map (some b)) (.string s) false).run Try.prog w = .ok (ptrV (look D s)) w := by
  have hz : (zeroValue 75).run Try.prog w = .ok (.pointer none) w := by kernel_rfl
  obtain ⟨v, ps, hr, hv⟩ := how.lookup keyed9 Try.underlying69 hz rdF_nil (Go.WideMaps.keyOf_string_mk Try.underlying9 hs)
  rw [hr, ptr_of_rdF hN hv]
theorem run_look_ok (how : w.ownsMap Try.prog 9 rdF b n D) (hN : Named D fb) (hs : s.size ≤ maxLen) : (Instr.lookup 69 (.map (some b)) (.string s) true).run Try.prog w = .ok (.tuple #[ptrV (look D s), .bool (look D s).isSome]) w := by
  have hz : (zeroValue 75).run Try.prog w = .ok (.pointer none) w := by kernel_rfl
  obtain ⟨v, ps, hr, hv⟩ := how.look_ok keyed9 Try.underlying69 hz rdF_nil (Go.WideMaps.keyOf_string_mk Try.underlying9 hs)
  rw [hr, ptr_of_rdF hN hv, ← look_has hN]
  rfl
end
theorem bytes_inj {a b : ByteArray} (h : a.toList = b.toList) : a = b := by
  rw [ByteArray.toList_eq, ByteArray.toList_eq] at h
  cases a; cases b; simp at h; rw [h]
theorem own_tight {H : Type} {P : Program} {k : TypeId} {R : Value → Option (DataW H × List MemPlace)} {w : World} {b n : Nat} {D : DataW H} (h : w.ownsMap P k R b n D) : w.ownsMap P k R b (Maps.size D) D := by
  obtain ⟨es, clock, h1, h2, h3, h4⟩ := h
  refine ⟨es, clock, h1, h2, ?_, h4⟩
  rw [h4]
  show es.size ≤ List.length _
  first | rw [length_sorted] | rw [Go.length_sorted] | rw [Go.ChangeMaps.length_sorted]
  rw [List.length_map, Array.length_toList]
  exact Nat.le_refl _
/-- A turn on a directory. -/
def onD (t : Turn) (D : Dt) : Dt :=
  if t.op = 1 then D.put (key t.name) (match t.f with | some f => fD f | none => .nil)
  else if t.op = 5 then D.del (key t.name)
  else if t.op = 4 then (match look D t.name with | some f => if t.name = t.dest then D else (D.del (key t.name)).put (key t.dest) (fD f) | none => D)
  else D
def turnV (t : Turn) : Value := .agg #[.int .i64 t.op, .string t.name, .string t.dest, ptrV t.f]
theorem key_lit (s : ByteArray) : WideAt.IsKeyLit (key s) := trivial
theorem Named.put {D : Dt} {fb : List Nat} {s : ByteArray} {f : Nat} (h : Named D fb) (hm : IsMap D) (hf : f ∈ fb) : Named (D.put (key s) (fD f)) fb := fun k z hk => by
  by_cases e : k = key s
  · subst e
    exact ⟨f, hf, Maps.atKey_put_same hm (key_lit s) _ _⟩
  · rw [Maps.has_put_other e] at hk
    rw [Maps.atKey_put_other e]
    exact h k z hk
theorem Named.del {D : Dt} {fb : List Nat} {s : ByteArray} (h : Named D fb) : Named (D.del (key s)) fb := fun k z hk => by
  by_cases e : k = key s
  · subst e
    have : Maps.has (D.del (key s)) (key s) = false := Maps.has_false_of_atKey fun z => Maps.atKey_del_same z
    rw [this] at hk
    cases hk
  · rw [Maps.atKey_del_other e]
    refine h k z ?_
    rw [← hk]
    exact (Maps.has_del_other e).symm
theorem isMap_put {D : Dt} {k : Lit} {d : Dt} (h : IsMap D) : IsMap (D.put k d) := by
  obtain ⟨es, rfl⟩ := h
  exact ⟨_, rfl⟩
theorem isMap_del {D : Dt} {k : Lit} (h : IsMap D) : IsMap (D.del k) := by
  obtain ⟨es, rfl⟩ := h
  exact ⟨_, rfl⟩
theorem isMap_on {t : Turn} {D : Dt} (h : IsMap D) : IsMap (onD t D) := by
  unfold onD
  split
  · exact isMap_put h
  · split
    · exact isMap_del h
    · split
      · split
        · split
          · exact h
          · exact isMap_put (isMap_del h)
        · exact h
      · exact h
theorem named_on {t : Turn} {D : Dt} {fb : List Nat} (h : Named D fb) (hm : IsMap D) (ht : TurnOk t fb) : Named (onD t D) fb := by
  unfold onD
  obtain ⟨_, _, ⟨h1, f, hf, e⟩ | ⟨h1, e⟩ | ⟨h1, e⟩⟩ := ht
  · rw [if_pos h1, e]
    exact h.put hm hf
  · rw [if_neg (by omega), if_pos h1]
    exact h.del
  · rw [if_neg (by omega), if_neg (by omega), if_pos h1]
    split
    · rename_i f hl
      split
      · exact h
      · exact (h.del).put (isMap_del hm) (look_mem h hl).1
    · exact h
set_option maxHeartbeats 2000000 in
set_option maxRecDepth 100000 in
theorem on_create (name dest : ByteArray) (f b n : Nat) (D : Dt) (w : World) (how : w.ownsMap Try.prog 9 rdF b n D) (hs : n < maxLen) (hn : name.size ≤ maxLen) :
    Calls Try.prog 45 #[.agg #[.int .i64 1, .string name, .string dest, .pointer (some ⟨f, 0, none⟩)], .map (some b)] w fun e w' => e = .returned (.tuple #[]) ∧ w'.ownsMap Try.prog 9 rdF b (n + 1) (D.put (key name) (fD f)) ∧ w.grownBy w' (some b) := by
  have hu := Try.underlying80
  have Hg := Aside0.mk (World.grownBy_alloc w (.cells #[.int .i64 1, .string name, .string dest, .pointer (some ⟨f, 0, none⟩)] TTurn) none)
  have how1 := how.alloc (.cells #[.int .i64 1, .string name, .string dest, .pointer (some ⟨f, 0, none⟩)] TTurn)
  clear how
  go_enter Try.func45, Try.ntmps45
  go_wp2_with (first
    | (at_mapUpdate; refine wpList_mapUpdate_own _ rfl _ _ _ 69 rfl 9 75 keyed9 Try.underlying69 _ b _ _ rfl how1 hs _ _ _ rfl rfl (Go.WideMaps.keyOf_string_mk Try.underlying9 hn) _ [] (rdF_ptr f) ?_; intro w4 h4 hg4)
    | go_in)
  go_end0
  exact ⟨rfl, h4, (Hg.out.but _).andThen hg4 (fun j hj => Or.inr hj)⟩
set_option maxHeartbeats 2000000 in
set_option maxRecDepth 100000 in
theorem on_remove (name dest : ByteArray) (fp : Value) (b n : Nat) (D : Dt) (w : World) (how : w.ownsMap Try.prog 9 rdF b n D) (hn : name.size ≤ maxLen) (hp : fp.oneCell' = true) :
    Calls Try.prog 45 #[.agg #[.int .i64 5, .string name, .string dest, fp], .map (some b)] w fun e w' => e = .returned (.tuple #[]) ∧ w'.ownsMap Try.prog 9 rdF b n (D.del (key name)) ∧ w.grownBy w' (some b) := by
  have hu := Try.underlying80
  have Hg := Aside0.mk (World.grownBy_alloc w (.cells #[.int .i64 5, .string name, .string dest, fp] TTurn) none)
  have how1 := how.alloc (.cells #[.int .i64 5, .string name, .string dest, fp] TTurn)
  clear how
  go_enter Try.func45, Try.ntmps45
  go_wp2_with (first
    | (at_delete; refine wpList_delete_own _ rfl _ _ 69 9 rfl 75 keyed9 Try.underlying69 _ b _ _ rfl how1 _ _ rfl (Go.WideMaps.keyOf_string_mk Try.underlying9 hn) ?_; intro w4 h4 hg4)
    | go_in)
  go_end0
  exact ⟨rfl, h4, (Hg.out.but _).andThen hg4.grown (fun j hj => Or.inr hj)⟩
set_option maxHeartbeats 2000000 in
set_option maxRecDepth 100000 in
theorem on_rename (name dest : ByteArray) (fp : Value) (b n : Nat) (D : Dt) (fb : List Nat) (w : World) (how : w.ownsMap Try.prog 9 rdF b n D) (hN : Named D fb) (hs : n < maxLen) (hn : name.size ≤ maxLen) (hd : dest.size ≤ maxLen) (hp : fp.oneCell' = true) :
    Calls Try.prog 45 #[.agg #[.int .i64 4, .string name, .string dest, fp], .map (some b)] w fun e w' => e = .returned (.tuple #[]) ∧ (∃ n', n' ≤ n + 1 ∧ w'.ownsMap Try.prog 9 rdF b n' (onD ⟨4, name, dest, none⟩ D)) ∧ w.grownBy w' (some b) := by
  have hu := Try.underlying80
  have Hg := Aside0.mk (World.grownBy_alloc w (.cells #[.int .i64 4, .string name, .string dest, fp] TTurn) none)
  have how1 := how.alloc (.cells #[.int .i64 4, .string name, .string dest, fp] TTurn)
  have HL := Aside0.mk (show ∀ w4, (w.alloc (.cells #[.int .i64 4, .string name, .string dest, fp] TTurn)).grownBy w4 (some b) → w4.cell? ⟨w.heap.size, 2, none⟩ = some (.string dest) from fun w4 hg => (blk_cell ((hg.block w.heap.size (by rw [size_alloc]; omega) (fun e => by injection e with e; have := how.lt; omega)).trans (heap_alloc_new w _)) 2).trans rfl)
  have hr := run_look_ok how1 hN hn
  have HO := Aside0.mk how1
  clear how how1 hN
  have hon : onD ⟨4, name, dest, none⟩ D = (match look D name with | some f => if name = dest then D else (D.del (key name)).put (key dest) (fD f) | none => D) := by
    unfold onD
    rw [if_neg (show ¬ ((4 : Int) = 1) by decide), if_neg (show ¬ ((4 : Int) = 5) by decide), if_pos rfl]
  rcases hl : look D name with _ | f
  · rw [hl] at hr hon
    have HD := Aside0.mk hon
    clear hl hon
    simp only [Option.isSome_none, ptrV, Option.map_none] at hr
    go_enter Try.func45, Try.ntmps45
    go_wp2
    go_end0
    exact ⟨rfl, ⟨n, Nat.le_succ n, by rw [HD.out]; exact HO.out⟩, Hg.out.but _⟩
  · rw [hl] at hr hon
    have HD := Aside0.mk hon
    clear hl hon
    simp only [Option.isSome_some, ptrV, Option.map_some] at hr
    by_cases he : name = dest
    · have HE := Aside0.mk he
      subst he
      go_enter Try.func45, Try.ntmps45
      go_wp2
      go_end0
      exact ⟨rfl, ⟨n, Nat.le_succ n, by rw [HD.out]; simp only [if_true]; exact HO.out⟩, Hg.out.but _⟩
    · have hne2 : (name.toList == dest.toList) = false := by rw [beq_eq_false_iff_ne]; exact fun h => he (bytes_inj h)
      have HE := Aside0.mk he
      clear he
      go_enter Try.func45, Try.ntmps45
      go_wp2_with (first
        | (at_delete; refine wpList_delete_own _ rfl _ _ 69 9 rfl 75 keyed9 Try.underlying69 _ b _ _ rfl HO.out _ _ rfl (Go.WideMaps.keyOf_string_mk Try.underlying9 hn) ?_; intro w4 h4 hg4; have hc4 := HL.out w4 hg4.grown; have H4 := Aside0.mk h4; have HG4 := Aside0.mk hg4; clear h4 hg4)
        | (at_mapUpdate; refine wpList_mapUpdate_own _ rfl _ _ _ 69 rfl 9 75 keyed9 Try.underlying69 _ b _ _ rfl H4.out hs _ _ _ rfl rfl (Go.WideMaps.keyOf_string_mk Try.underlying9 hd) _ [] (rdF_ptr f) ?_; intro w5 h5 hg5)
        | go_in)
      go_end0
      exact ⟨rfl, ⟨n + 1, Nat.le_refl _, by rw [HD.out]; simp only [if_neg HE.out]; exact h5⟩, ((Hg.out.but _).andThen HG4.out.grown (fun j hj => Or.inr hj)).andThen hg5 (fun j hj => Or.inr hj)⟩
theorem ptrV_one (o : Option Nat) : (ptrV o).oneCell' = true := rfl
theorem on_any (t : Turn) (b n : Nat) (D : Dt) (fb : List Nat) (w : World) (how : w.ownsMap Try.prog 9 rdF b n D) (hN : Named D fb) (ht : TurnOk t fb) (hs : n < maxLen) :
    Calls Try.prog 45 #[turnV t, .map (some b)] w fun e w' => e = .returned (.tuple #[]) ∧ w'.ownsMap Try.prog 9 rdF b (Maps.size (onD t D)) (onD t D) ∧ w.grownBy w' (some b) := by
  obtain ⟨op, name, dest, f⟩ := t
  obtain ⟨h1, h2, h3⟩ := ht
  have m1 : name.size ≤ maxLen := h1
  have m2 : dest.size ≤ maxLen := h2
  unfold turnV
  rcases h3 with ⟨h, f', hf, e⟩ | ⟨h, e⟩ | ⟨h, e⟩
  · simp only at h e
    subst h e
    refine (on_create name dest f' b n D w how hs m1).mono ?_
    rintro e w' ⟨he, ho, hg⟩
    exact ⟨he, own_tight (by unfold onD; first | (rw [if_pos rfl]; exact ho) | (rw [if_neg (show ¬ ((5 : Int) = 1) by decide), if_pos rfl]; exact ho)), hg⟩
  · simp only at h e
    subst h e
    refine (on_remove name dest (ptrV none) b n D w how m1 rfl).mono ?_
    rintro e w' ⟨he, ho, hg⟩
    exact ⟨he, own_tight (by unfold onD; first | (rw [if_pos rfl]; exact ho) | (rw [if_neg (show ¬ ((5 : Int) = 1) by decide), if_pos rfl]; exact ho)), hg⟩
  · simp only at h e
    subst h e
    refine (on_rename name dest (ptrV none) b n D fb w how hN hs m1 m2 rfl).mono ?_
    rintro e w' ⟨he, ⟨n', _, ho⟩, hg⟩
    exact ⟨he, own_tight ho, hg⟩
end Go.Proofs.Ytamhecmopnekjaa.Vf
/- vfs: slices.Clone and slices.Clip of bytes; slices.ContainsFunc over a test that is below nought; slices.Clone of faults. -/
namespace Go.Proofs.Ytamhecmopnekjaa.Vf
open Go Go.RowKit Go.Maps Go.Proofs.Ytamhecmopnekjaa Go.Proofs.YtamhecmopnekjaaW.PrintWords
set_option linter.unusedVariables false
set_option linter.unusedSimpArgs false

theorem infoU8 : (Try.prog.info? 5).map (fun i => (i.zero, i.size, i.bytes)) = some (some (.int .u8 0), 1, 1) := by kernel_rfl
def nb (L : List UInt8) : List Int := L.map fun c => (c.toNat : Int)
theorem nb_len (L : List UInt8) : (nb L).length = L.length := List.length_map _
theorem nb_app (L M : List UInt8) : nb (L ++ M) = nb L ++ nb M := List.map_append
theorem bytesAt_of_own {w : World} {B : Nat} {v : Value} {L : List UInt8} (h : OwnG w B 5 .u8 v (nb L)) : BytesAt w B v L := by
  rcases h with ⟨rfl, h⟩ | ⟨g, cap, cur, fz, e, h1, h2, h3, h4, h5, h6, h7⟩
  · exact .inl ⟨rfl, by cases L with | nil => rfl | cons a l => cases h⟩
  · rw [nb_len] at e h4 h7
    refine .inr ⟨g, cap, cur, fz, e, h4, h5, h1, h2, fun i hi => ?_⟩
    have h8 : (cur.toList.take L.length)[i]? = (nums .u8 (nb L))[i]? := by rw [h7]
    rw [List.getElem?_take_of_lt hi, Array.getElem?_toList] at h8
    rw [h8]
    simp [nums, nb, hi, List.getD_eq_getElem?_getD]
theorem wpList_append_run {P : Program} {ops : Array Oper} {rest : List Oper} {o : Oper} {a : Act} {Q : Exit → Act → World → Prop} {W : World} (hgd : o.guard = none) (s x : Operand) (t : TypeId)
    (ho : o.op = .call { callee := .builtin .append, args := #[s, x], argTypes := #[t, t] }) (v u : Value) (hs : a.eval s = v) (hx : a.eval x = u) {v1 : Value} {w1 : World} (ty : TypeId) (hty : o.type = ty)
    (hr : (Builtin.append_ #[t, t] ty #[v, u]).run P W = .ok v1 w1) (h : wpList P ops Q rest (a.put o.dst v1) w1) : wpList P ops Q (o :: rest) a W := by
  subst hty
  refine wpList_plain hgd fun K hK => ?_
  unfold Oper.wp execOp
  simp only [ho, resolve, invoke, builtin, Sem.run_bind, Sem.run_pure, Result.andThen_ok, List.map_toArray, List.map_cons, List.map_nil, hs, hx, hr]
  exact hK _ _ h
theorem bytesAt_of_R {w : World} {B : Nat} {ok : Nat → Prop} {v : Value} {L : List UInt8} (h : (Kd.int .u8).R 5 w B ok v (nb L)) : BytesAt w B v L := by
  obtain ⟨A, c, e, hle, hC⟩ := Kd.R_reads h
  obtain ⟨inner, ho⟩ := Kd.R_own h
  have hrd := Kd.reads_of_C (d := (0 : Int)) hC
  rw [nb_len] at e hle hrd
  rcases ho.2 with ⟨hv, h0⟩ | ⟨g, cap, cur, hv, hb, hg, h1, h2, h3, h4⟩
  · rw [nb_len] at h0
    exact .inl ⟨hv, List.eq_nil_of_length_eq_zero h0⟩
  · rw [nb_len] at hv h1
    refine .inr ⟨g, cap, cur, (0, 0), hv, h1, h2, hb, hg, fun i hi => ?_⟩
    obtain ⟨ad, hA, hc⟩ := hrd.2.2 (by omega)
    rw [hv] at e
    injection e with e1 _ _
    rw [← e1] at hA
    injection hA with hA
    have := hc i hi
    rw [← hA, add_lit0, World.cell?, hg] at this
    have h5 : cur[i]? = some (.int .u8 ((nb L).getD i 0)) := this
    rw [h5, List.getD_eq_getElem?_getD, List.getD_eq_getElem?_getD]
    unfold nb
    rw [List.getElem?_map, List.getElem?_eq_getElem hi]
    rfl
set_option maxHeartbeats 1000000 in
set_option maxRecDepth 100000 in
theorem clone_row (A : Option Addr) (n c : Nat) (L : List UInt8) (w : World) (HR : ReadsInt w .u8 A n (nb L)) (hl : n ≤ 140737488355328) :
    Calls Try.prog 36 #[.slice A n c] w fun e w' => ∃ v, e = .returned v ∧ (Kd.int .u8).R 5 w' w.heap.size (fun _ => True) v (nb L) ∧ Below w.heap.size w w' := by
  have hu := Try.underlying22
  have hq := fun (w : World) (a : Option Addr) (n c : Nat) => Lib.run_eql_slice_nil (P := Try.prog) w _ _ a n c 0 0 hu
  rcases A with _ | ad
  · obtain rfl : n = 0 := by
      rcases Nat.eq_zero_or_pos n with h0 | h0
      · exact h0
      · obtain ⟨ad, h, _⟩ := HR.2.2 h0
        cases h
    have hL : L = [] := by
      have := HR.1
      rw [nb_len] at this
      exact List.eq_nil_of_length_eq_zero this
    subst hL
    clear HR
    go_enter Try.func36, Try.ntmps36
    go_wp2
    go_ret
    exact ⟨_, rfl, Kd.R_nil _ _ _ _ _, Below.refl _ _⟩
  · have hb1 : Below w.heap.size w (w.alloc (.cells #[] 5)) := (Below.refl _ _).alloc (Nat.le_refl _) _
    have HB := Aside0.mk hb1
    have HR1 := HR.below hb1
    obtain ⟨i0, hi, hzz⟩ := Option.map_eq_some_iff.1 infoU8
    simp only [Prod.mk.injEq] at hzz
    obtain ⟨hz0, hz1, hz2⟩ := hzz
    have hm : (nb L).length = n := HR.1
    have hown : (w.alloc (.cells #[] 5)).ownsRow w.heap.size 5 1 (.slice (some ⟨w.heap.size, 0, none⟩) 0 0) 0 [] := World.ownsRow_lit (base := w.heap.size) (e := 5) (size := 1) w #[] 0 (Nat.le_refl _) (by decide) rfl
    have hel : (encs (Value.int .u8) (nb L)).length = n := by rw [encs_length, hm]
    have hnews : ∀ j u, (encs (Value.int .u8) (nb L))[j]? = some u → (w.alloc (.cells #[] 5)).cell? (ad.add j) = some u := by
      intro j u hu'
      have hj : j < n := by rw [← hel]; exact (List.getElem?_eq_some_iff.1 hu').1
      obtain ⟨ad', e, hc⟩ := HR1.2.2 (by omega)
      injection e with e
      subst e
      rw [hc j hj, ← hu', List.getD_eq_getElem?_getD]
      have hj' : j < (nb L).length := by omega
      simp [encs, List.getElem?_eq_getElem hj']
    have hone : ∀ u ∈ encs (Value.int .u8) (nb L), u.oneCell' = true := by
      intro u hu'
      simp only [encs, List.mem_map] at hu'
      obtain ⟨q, _, rfl⟩ := hu'
      rfl
    obtain ⟨v1, w1, hr, ho, hg, _, _⟩ := run_append_own_at (P := Try.prog) (w := w.alloc (.cells #[] 5)) w.heap.size 22 22 5 i0 _ 1 1 Try.underlying22 hi hz0 hz1 hz2 rfl (by decide) (.slice (some ⟨w.heap.size, 0, none⟩) 0 0) 0 [] hown ad n c (encs (Value.int .u8) (nb L)) (by rw [hel, Nat.mul_one]) hnews hone (by unfold maxLen; omega) (by omega) (by rw [size_alloc]; omega)
    have HO := Aside0.mk (show w1.ownsRow w.heap.size 5 1 v1 (nb L).length (encs (Value.int .u8) (nb L)) by have h := ho; rw [Nat.zero_add, List.nil_append] at h; rw [hm]; exact h)
    have HG := Aside0.mk hg
    clear HR HR1 hnews hown ho hg hb1 hi hz0 hz1 hz2 hone hel hm
    go_enter Try.func36, Try.ntmps36
    go_wp2_with (at_builtin; refine wpList_append_run rfl (.tmp 5) (.tmp 6) 22 rfl _ _ rfl rfl 22 rfl hr ?_)
    go_ret
    refine ⟨_, rfl, Kd.R_of_own HO.out (fun _ _ => trivial), HB.out.grown HG.out HB.out.size (fun k hk => ?_)⟩
    change (Value.slice (some ⟨w.heap.size, 0, none⟩) 0 0).ownBlock = some k at hk
    have : w.heap.size = k := by simpa [Value.ownBlock] using hk
    omega
theorem clone_bytes (A : Option Addr) (n c : Nat) (L : List UInt8) (w : World) (HR : ReadsInt w .u8 A n (nb L)) (hl : n ≤ 140737488355328) :
    Calls Try.prog 36 #[.slice A n c] w fun e w' => ∃ v, e = .returned v ∧ BytesAt w' w.heap.size v L ∧ Below w.heap.size w w' :=
  (clone_row A n c L w HR hl).mono fun _ _ ⟨v, he, hr, hb⟩ => ⟨v, he, bytesAt_of_R hr, hb⟩
set_option maxHeartbeats 1000000 in
set_option maxRecDepth 100000 in
theorem clip_bytes (A : Option Addr) (n c : Nat) (w : World) (hn : n ≤ c) (hc : c ≤ maxLen) (hA : A = none → n = 0 ∧ c = 0) :
    Calls Try.prog 39 #[.slice A n c] w fun e w' => e = .returned (.slice A n n) ∧ w' = w := by
  have hu := Try.underlying22
  have hq := fun (w : World) (a : Option Addr) (n c : Nat) => Lib.run_eql_slice_nil (P := Try.prog) w _ _ a n c 0 0 hu
  unfold maxLen at hc
  rcases A with _ | ad
  · obtain ⟨rfl, rfl⟩ := hA rfl
    go_enter Try.func39, Try.ntmps39
    go_wp2
    go_ret
    exact ⟨rfl, rfl⟩
  · go_enter Try.func39, Try.ntmps39
    go_wp2
    go_ret
    exact ⟨rfl, rfl⟩
set_option maxHeartbeats 1000000 in
set_option maxRecDepth 100000 in
theorem crash1_any (x : Int) (w : World) : Calls Try.prog 44 #[.int .i64 x] w fun e w' => e = .returned (.bool (decide (x < 0))) ∧ w' = w := by
  go_enter Try.func44, Try.ntmps44
  go_wp2
  go_ret
  exact ⟨rfl, rfl⟩
def below0 (ks : List Int) : Bool := ks.any fun k => decide (k < 0)
theorem any_take (ks : List Int) (i : Nat) (h : i < ks.length) : below0 (ks.take (i + 1)) = (below0 (ks.take i) || decide (ks.getD i 0 < 0)) := by
  unfold below0
  rw [List.take_succ_eq_append_getElem h, List.any_append, List.getD_eq_getElem?_getD, List.getElem?_eq_getElem h]
  simp
theorem any_neg (ks : List Int) (i : Nat) (h : i < ks.length) (hb : ks.getD i 0 < 0) : below0 ks = true := by
  unfold below0
  rw [List.any_eq_true]
  refine ⟨ks[i], List.getElem_mem h, ?_⟩
  rw [List.getD_eq_getElem?_getD, List.getElem?_eq_getElem h] at hb
  exact decide_eq_true hb
set_option maxHeartbeats 2000000 in
set_option maxRecDepth 100000 in
theorem index_any (A : Option Addr) (n c : Nat) (ks : List Int) (w : World) (HR : ReadsInt w .i64 A n ks) (hnc : n ≤ c) :
    Calls Try.prog 55 #[.slice A n c, .func (.func 44) #[] #[]] w fun e w' => (∃ r : Int, e = .returned (.int .i64 r) ∧ below0 ks = decide (0 ≤ r)) ∧ w' = w := by
  have hlen := HR.1
  have hmax := HR.2.1
  have HM := Aside0.mk HR
  clear HR
  go_enter Try.func55, Try.ntmps55
  go_wp2
  go_loop [8] (fun iv => ∃ i : Nat, i ≤ n ∧ iv = .int .i64 i ∧ Aside0 (below0 (ks.take i) = false)) (fun iv => n - (intOf iv).toNat)
  case atStart => exact ⟨0, Nat.zero_le _, rfl, ⟨rfl⟩⟩
  case round =>
    obtain ⟨i, hi, rfl, Ha⟩ := hrel
    by_cases hlt : i < n
    · obtain ⟨ad, hA, hc⟩ := HM.out.2.2 (by omega)
      have hc1 := hc i hlt
      subst hA
      have hst := Aside0.mk (any_take ks i (by omega))
      have hng := Aside0.mk (any_neg ks i (by omega))
      obtain ⟨x, hx⟩ : ∃ x, ks.getD i 0 = x := ⟨_, rfl⟩
      rw [hx] at hc1 hst hng
      clear hc hx
      have hli : (i : Int) < (n : Int) := by omega
      by_cases hneg : x < 0
      · have hd : decide (x < 0) = true := decide_eq_true hneg
        have HB := Aside0.mk (hng.out hneg)
        clear hneg
        go_wp2_with (go_at_call 44; refine (crash1_any x w).mono ?_; rintro e w1 ⟨rfl, rfl⟩)
        go_ret
        exact ⟨⟨_, rfl, by rw [HB.out]; exact (decide_eq_true (by omega)).symm⟩, rfl⟩
      · have hd : decide (x < 0) = false := decide_eq_false hneg
        have HB := Aside0.mk (show below0 (ks.take (i + 1)) = false by rw [hst.out, Ha.out, hd]; rfl)
        clear hneg
        go_wp2_with (go_at_call 44; refine (crash1_any x w).mono ?_; rintro e w1 ⟨rfl, rfl⟩)
        go_round
        case rel => exact ⟨i + 1, by omega, by go_num, HB⟩
        case measure => simp [intOf]; omega
    · obtain rfl : i = n := by omega
      have HB := Aside0.mk (show below0 ks = false by have := Ha.out; rwa [List.take_of_length_le (by omega)] at this)
      go_wp2
      go_ret
      exact ⟨⟨-1, rfl, by rw [HB.out]; rfl⟩, rfl⟩
set_option maxHeartbeats 1000000 in
set_option maxRecDepth 100000 in
theorem contains_any (A : Option Addr) (n c : Nat) (ks : List Int) (w : World) (HR : ReadsInt w .i64 A n ks) (hnc : n ≤ c) :
    Calls Try.prog 43 #[.slice A n c, .func (.func 44) #[] #[]] w fun e w' => e = .returned (.bool (below0 ks)) ∧ w' = w := by
  have HM := Aside0.mk (index_any A n c ks w HR hnc)
  clear HR
  go_enter Try.func43, Try.ntmps43
  go_wp2_with (go_at_call 55; refine HM.out.mono ?_; rintro e w1 ⟨⟨r, rfl, hr⟩, rfl⟩)
  go_ret
  exact ⟨by rw [hr]; rfl, rfl⟩
end Go.Proofs.Ytamhecmopnekjaa.Vf
