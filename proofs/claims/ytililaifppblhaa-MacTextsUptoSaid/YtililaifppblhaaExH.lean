/- Walk: the document's Hex; as a printed caller takes a callee. -/
import Derived.Test.YtililaifppblhaaRefM
import Derived.Test.YtililaifppblhaaMacP
import Derived.Deep.RegionLaw
import Derived.Test.YtililaifppblhaaAwk
namespace Go.Proofs.Ytililaifppblhaa.Sha
open Go Go.RowKit Go.Proofs.Ytililaifppblhaa Go.Proofs.YtililaifppblhaaW.PrintWords
set_option linter.unusedVariables false
set_option linter.unusedSimpArgs false

theorem step_append_G {P : Program} {ops : Array Oper} {o : Oper} {a : Act} {W : World} {K : Act → World → Prop} {Q : Exit → Act → World → Prop} {E : Prop}
    (base : Nat) (hgd : o.guard = none) (s x : Operand) (t e : TypeId) (k : IntKind)
    (ho : o.op = .call { callee := .builtin .append, args := #[s, x], argTypes := #[t, t] })
    (ht : P.underlying t = some (.slice e)) (hinfo : (P.info? e).map (fun i => (i.zero, i.size, i.bytes)) = some (some (.int k 0), 1, 1))
    (v : Value) (xs ys : List Int) (A : Option Addr) (m c : Nat) (hs : a.eval s = v) (hx : a.eval x = .slice A m c)
    (HO : OwnG W base e k v xs) (HR : ReadsInt W k A m ys) (hbase : base ≤ W.heap.size) (hl : xs.length + m ≤ 140737488355328)
    (h : ∀ v1 w1, OwnG w1 base e k v1 (xs ++ ys) → W.grownBy w1 v.ownBlock → (v1.ownBlock = v.ownBlock ∨ v1.ownBlock = some W.heap.size) → K (a.put o.dst v1) w1) :
    if Region.wanted o (yielded ops a.tmps) = true then Oper.wp P o a W K Q else E := by
  have hw : Region.wanted o (yielded ops a.tmps) = true := by simp [Region.wanted, hgd]
  rw [if_pos hw]
  obtain ⟨v1, w1, hr, hown, hg, hat⟩ := run_append_G (P := P) W base t o.type e k ht hinfo v xs ys A m c HO HR hbase hl
  unfold Oper.wp execOp
  simp only [ho, resolve, invoke, builtin, Sem.run_bind, Sem.run_pure, Result.andThen_ok, List.map_toArray, List.map_cons, List.map_nil, hs, hx, hr]
  exact h v1 w1 hown hg hat
theorem lit2 (w : World) (q0 q1 : Int) : ReadsInt (w.alloc (.cells #[.int .u8 q0, .int .u8 q1] 5)) .u8 (some ⟨w.heap.size, 0, none⟩) 2 [q0, q1] := by
  refine ⟨rfl, by decide, fun _ => ⟨_, rfl, fun j hj => ?_⟩⟩
  rw [add_plain, cell_of_row _ _ _ _ _ _ (heap_alloc_new _ _)]
  match j, hj with
  | 0, _ => rfl
  | 1, _ => rfl
def hexes0 : ByteArray := ⟨#[48, 49, 50, 51, 52, 53, 54, 55, 56, 57, 97, 98, 99, 100, 101, 102]⟩
theorem hexL_snoc (l : List UInt8) (c : UInt8) : hexL (l ++ [c]) = hexL l ++ [c.toNat / 16, c.toNat % 16] := by
  unfold hexL
  rw [List.flatMap_append]
  simp
set_option maxHeartbeats 2000000 in
theorem ref_hex_any (s : ByteArray) (w : World) (hs : s.size ≤ 70368744177600) :
    Calls Try.prog 30 #[.string s] w fun e w' => e = .returned (.string ⟨(letB hexes0 (hexL s.data.toList)).toArray⟩) ∧ Below w.heap.size w w' := by
  have Hs := Aside0.mk hs
  have hsm : s.size ≤ 9223372036854775807 := by omega
  clear hs
  have HP := Aside0.mk (P2.nil w w (Below.refl _ _))
  go_enter Try.func30, Try.ntmps30
  go_wp2
  go_loopw [3, 4] (fun bv iv wr => ∃ i : Nat, i ≤ s.size ∧ iv = .int .i64 i ∧ (∃ a1 c1, bv = .slice a1 (2 * i) c1) ∧ Aside0 (P2 w bv (.slice none 0 0) (letB hexes0 (hexL (s.data.toList.take i))) [] wr)) (fun _ iv _ => s.size - (intOf iv).toNat)
  case atStart => exact ⟨0, Nat.zero_le _, rfl, ⟨_, _, rfl⟩, HP⟩
  case round =>
    clear HP
    obtain ⟨i, hi, rfl, ⟨a1, c1, rfl⟩, HP⟩ := hrel
    by_cases hlt : i < s.size
    · have hin : (i : Int) < (s.size : Int) := by omega
      have i0 : (0 : Int) ≤ (i : Int) := by omega
      have hc := s[i].toNat_lt
      obtain ⟨c, hcn⟩ : ∃ c : Nat, s[i].toNat = c := ⟨_, rfl⟩
      have hcs : s.data.toList.take (i + 1) = s.data.toList.take i ++ [s[i]] := by
        rw [List.take_succ_eq_append_getElem (by rw [Array.length_toList]; exact hlt)]; rfl
      have hx3 : (s[i].toNat : Int) = (c : Int) := by rw [hcn]
      rw [hcn] at hc
      have c0 : (0 : Int) ≤ (c : Int) := by omega
      have c2 : (c : Int) < 256 := by omega
      obtain ⟨q, hq⟩ : ∃ q : Nat, c / 16 = q := ⟨_, rfl⟩
      obtain ⟨r, hr⟩ : ∃ r : Nat, c % 16 = r := ⟨_, rfl⟩
      have hqi : (c : Int) / 16 = (q : Int) := by omega
      have hri : (c : Int) % 16 = (r : Int) := by omega
      have hrt : (c : Int).tmod 16 = (r : Int) := by rw [Int.tmod_eq_emod_of_nonneg (by omega)]; exact hri
      have hqw : IntKind.u8.wrap (q : Int) = (q : Int) := by show (q : Int) % 256 = _; omega
      have hrw : IntKind.u8.wrap (r : Int) = (r : Int) := by show (r : Int) % 256 = _; omega
      have q16 : (q : Int) < 16 := by omega
      have r16 : (r : Int) < 16 := by omega
      have q16n : q < 16 := by omega
      have r16n : r < 16 := by omega
      obtain ⟨y1, hy1⟩ : ∃ y : UInt8, hexes0.data.toList.getD q 0 = y := ⟨_, rfl⟩
      obtain ⟨y2, hy2⟩ : ∃ y : UInt8, hexes0.data.toList.getD r 0 = y := ⟨_, rfl⟩
      have hx1 : ∀ h : q < (⟨#[48, 49, 50, 51, 52, 53, 54, 55, 56, 57, 97, 98, 99, 100, 101, 102]⟩ : ByteArray).size, (((⟨#[48, 49, 50, 51, 52, 53, 54, 55, 56, 57, 97, 98, 99, 100, 101, 102]⟩ : ByteArray)[q]'h).toNat : Int) = (y1.toNat : Int) := fun h => by
        rw [← hy1, List.getD_eq_getElem?_getD, Array.getElem?_toList, Array.getElem?_eq_getElem (show q < hexes0.data.size from h)]; rfl
      have hx2 : ∀ h : r < (⟨#[48, 49, 50, 51, 52, 53, 54, 55, 56, 57, 97, 98, 99, 100, 101, 102]⟩ : ByteArray).size, (((⟨#[48, 49, 50, 51, 52, 53, 54, 55, 56, 57, 97, 98, 99, 100, 101, 102]⟩ : ByteArray)[r]'h).toNat : Int) = (y2.toNat : Int) := fun h => by
        rw [← hy2, List.getD_eq_getElem?_getD, Array.getElem?_toList, Array.getElem?_eq_getElem (show r < hexes0.data.size from h)]; rfl
      have hst : letB hexes0 (hexL (s.data.toList.take (i + 1))) = letB hexes0 (hexL (s.data.toList.take i)) ++ [y1, y2] := by
        rw [hcs, hexL_snoc, hcn, hq, hr]
        unfold letB
        rw [List.map_append]
        simp only [List.map_cons, List.map_nil]
        rw [hy1, hy2]
      have Hst := Aside0.mk hst
      have hll : (nb (letB hexes0 (hexL (s.data.toList.take i)))).length = 2 * i := by
        unfold letB
        rw [nb_len, List.length_map, hexL_len, List.length_take, Array.length_toList, Nat.min_eq_left (by show i ≤ s.size; omega)]
      have Hll := Aside0.mk hll
      clear hq hr hy1 hy2 hst hcs hcn hll
      go_upto_region 5 with fail
      go_region_law (refine step_append_G w.heap.size rfl (.tmp 11) (.tmp 22) 28 5 .u8 rfl Try.underlying28 infoByteS _ (nb (letB hexes0 (hexL (s.data.toList.take i)))) _ _ _ _ rfl rfl (HP.out.drew.alloc _).o1 (lit2 _ _ _) (HP.out.drew.alloc _).be.size (by rw [Hll.out]; have := Hs.out; omega) ?_; intro v1 w1 ho hg ha)
      all_goals
        have HP1 := Aside0.mk ((HP.out.drew.alloc _).app1 (m := [y1, y2]) ho hg (by rcases ha with h | h; exact .inl h; exact .inr (h.trans (by simp))))
        obtain ⟨ad1, cp1, hv1⟩ := ownG_shape ho
        rw [List.length_append, Hll.out] at hv1
        rw [show 2 * i + [_, _].length = 2 * (i + 1) by simp; omega] at hv1
        subst hv1
        clear ho hg ha HP
        go_wp2
        go_roundw
        case rel =>
          refine ⟨i + 1, by omega, by go_num, ⟨_, _, rfl⟩, ?_⟩
          rw [Hst.out]
          exact HP1
        case measure => simp [intOf]; omega
    · obtain rfl : i = s.size := by omega
      have hl := HP.out
      rw [List.take_of_length_le (by rw [Array.length_toList]; exact Nat.le_refl _)] at hl
      have HP1 := Aside0.mk hl
      have kc := ownG_text (n := 2 * s.size) HP1.out.o1
      clear hl HP
      go_wp2
      go_ret
      exact ⟨rfl, HP1.out.be⟩
end Go.Proofs.Ytililaifppblhaa.Sha
namespace Go.Proofs.Ytililaifppblhaa
open Go Go.RowKit Go.Proofs.YtililaifppblhaaW.PrintWords
set_option linter.unusedVariables false
set_option linter.unusedSimpArgs false

def atriumref04_Hex.f (a0 : ByteArray) : Option ByteArray := if a0.size ≤ 70368744177600 then some ⟨(Sha.letB Sha.hexes0 (Sha.hexL a0.data.toList)).toArray⟩ else none
theorem atriumref04_Hex.calls (a0 : ByteArray) (r : ByteArray) (w : World) (h : atriumref04_Hex.f a0 = some r) :
    Calls Try.prog 30 #[.string a0] w fun e w' => e = .returned (.string r) ∧ Below w.heap.size w w' := by
  unfold atriumref04_Hex.f at h
  split at h
  · rename_i hs
    injection h with h
    subst h
    exact Sha.ref_hex_any a0 w hs
  · cases h
end Go.Proofs.Ytililaifppblhaa
