/- Small laws for the pure side: bytes, wraps, rounds. -/
import Derived.Test.YtjlohahknngmmaaDoorWWords
import Derived.IntWalk
import Derived.Test.YtjlohahknngmmaaDoorWLast
import Derived.Test.YtjlohahknngmmaaDoorPCx
import Derived.Test.YtjlohahknngmmaaDoorProg
import Derived.WalkKit
import Derived.KernelRfl
import Derived.Lib.Hide
import Derived.Laws.IdiomStrings
import Derived.BigQuiet
import Derived.RowKit3
namespace Go.Proofs.YtjlohahknngmmaaDoor
open Go Go.RowKit Go.Proofs.YtjlohahknngmmaaDoorW.PrintWords
set_option linter.unusedVariables false

theorem bt_nat (s : ByteArray) (k : Nat) (h : k < s.size) : bt s (k : Int) = ((s[k]'h).toNat : Int) := by
  unfold bt
  rw [dif_pos (by simpa using h)]
  rfl
theorem bt_nat' (s : ByteArray) (k : Nat) (h : k < s.size) : ∃ b : UInt8, bt s (k : Int) = (b.toNat : Int) ∧ s.data.toList.take (k + 1) = s.data.toList.take k ++ [b] ∧ b = s[k]'h := by
  refine ⟨s[k]'h, bt_nat s k h, ?_, rfl⟩
  rw [List.take_succ_eq_append_getElem (by simpa using h)]; rfl

theorem wrap64_id {x : Int} (h : -9223372036854775808 ≤ x) (h' : x ≤ 9223372036854775807) : wrap64 x = x := by unfold wrap64; omega
theorem wrap64_nat {n : Nat} (h : n ≤ 9223372036854775807) : wrap64 (n : Int) = (n : Int) := wrap64_id (by omega) (by omega)
theorem wrap64_succ {n : Nat} (h : n < 9223372036854775807) : wrap64 ((n : Int) + 1) = ((n + 1 : Nat) : Int) := by rw [wrap64_id (by omega) (by omega)]; rfl
theorem wrap32_id {x : Int} (h : -2147483648 ≤ x) (h' : x ≤ 2147483647) : wrap32 x = x := by unfold wrap32; omega

theorem toList_inj {a b : ByteArray} : a.toList = b.toList ↔ a = b := by
  rw [ByteArray.toList_eq, ByteArray.toList_eq]
  constructor
  · intro h; cases a; cases b; simp at h; rw [h]
  · intro h; rw [h]
theorem data_inj {a b : ByteArray} (h : a.data.toList = b.data.toList) : a = b := by cases a; cases b; simp at h; rw [h]

/-- A callee without rounds whose answer is known. -/
theorem evBindc {α β : Type} {x : Option α} {f : Nat → α → Option β} {a : α} {r : β} (h : x = some a) (k : Ev (fun n => f n a) r) : Ev (fun n => x.bind (f n)) r := by
  subst h
  exact k
theorem evIfPos {α : Type} {c : Prop} [Decidable c] {f g : Nat → Option α} {r : α} (h : c) (k : Ev f r) : Ev (fun n => if c then f n else g n) r := by
  obtain ⟨K, k⟩ := k
  exact ⟨K, fun n hn => by simp only [if_pos h]; exact k n hn⟩
theorem evIfNeg {α : Type} {c : Prop} [Decidable c] {f g : Nat → Option α} {r : α} (h : ¬ c) (k : Ev g r) : Ev (fun n => if c then f n else g n) r := by
  obtain ⟨K, k⟩ := k
  exact ⟨K, fun n hn => by simp only [if_neg h]; exact k n hn⟩

/-- A fact on every byte, asked of each by the kernel. -/
theorem byte_all (p : UInt8 → Bool) (h : (List.range 256).all (fun n => p (UInt8.ofNat n)) = true) (c : UInt8) : p c = true := by
  have h1 := List.all_eq_true.1 h c.toNat (List.mem_range.2 c.toNat_lt)
  rwa [UInt8.ofNat_toNat] at h1

theorem u64w {x : Int} (h : 0 ≤ x) (h' : x < 18446744073709551616) : IntKind.u64.wrap x = x := by
  show x % 18446744073709551616 = x
  omega
theorem u32w {x : Int} (h : 0 ≤ x) (h' : x < 4294967296) : IntKind.u32.wrap x = x := by
  show x % 4294967296 = x
  omega

theorem bv_nat (m : Nat) (x : Nat) : BitVec.ofInt m (x : Int) = BitVec.ofNat m x := by
  apply BitVec.eq_of_toNat_eq
  rw [BitVec.toNat_ofInt, BitVec.toNat_ofNat]
  omega

theorem bits_or64 (x y : Nat) (hx : x < 18446744073709551616) (hy : y < 18446744073709551616) : Go.bits .or .u64 (x : Int) (y : Int) = ((x ||| y : Nat) : Int) := by
  show IntKind.u64.wrap ((BitVec.ofInt 64 (x : Int) ||| BitVec.ofInt 64 (y : Int)).toNat : Int) = _
  rw [bv_nat, bv_nat, BitVec.toNat_or, BitVec.toNat_ofNat, BitVec.toNat_ofNat, Nat.mod_eq_of_lt (by omega), Nat.mod_eq_of_lt (by omega)]
  have : x ||| y < 2 ^ 64 := Nat.or_lt_two_pow (by omega) (by omega)
  exact u64w (by omega) (by omega)

/-- Two numbers that share no bit. -/
theorem or_add (a b k : Nat) (ha : a < 2 ^ k) (hb : 2 ^ k * b + a < 18446744073709551616) : Go.bits .or .u64 ((2 ^ k * b : Nat) : Int) (a : Int) = ((2 ^ k * b + a : Nat) : Int) := by
  rw [bits_or64 _ _ (by omega) (by omega), Nat.two_pow_add_eq_or_of_lt ha]
theorem or_add' (a b k : Nat) (ha : a < 2 ^ k) (hb : 2 ^ k * b + a < 18446744073709551616) : Go.bits .or .u64 (a : Int) ((2 ^ k * b : Nat) : Int) = ((a + 2 ^ k * b : Nat) : Int) := by
  rw [bits_or64 _ _ (by omega) (by omega), Nat.or_comm, ← Nat.two_pow_add_eq_or_of_lt ha, Nat.add_comm]

theorem extract_rest (s : ByteArray) (p n : Nat) (h : p + n ≤ s.size) : (s.extract p s.size).extract 0 n = s.extract p (p + n) := by
  apply ByteArray.ext
  simp only [ByteArray.data_extract, Array.extract_extract]
  congr 1
  show min (p + n) s.size = p + n
  omega
theorem extract_rest2 (s : ByteArray) (p n : Nat) (h : p + n ≤ s.size) : (s.extract p s.size).extract n (s.extract p s.size).size = s.extract (p + n) s.size := by
  apply ByteArray.ext
  have : (s.extract p s.size).size = s.size - p := by simp [ByteArray.size_extract]
  rw [this]
  simp only [ByteArray.data_extract, Array.extract_extract]
  congr 1
  show min (p + (s.size - p)) s.size = s.size
  omega
theorem extract_size (s : ByteArray) (p : Nat) : (s.extract p s.size).size = s.size - p := by simp [ByteArray.size_extract]
theorem extract_all (s : ByteArray) : s.extract 0 s.size = s := by
  apply ByteArray.ext; simp
end Go.Proofs.YtjlohahknngmmaaDoor
/- The check sum as a plain function of the bytes; no program. -/
namespace Go.Proofs.YtjlohahknngmmaaDoor.PureQ
set_option linter.unusedVariables false
open Go Go.RowKit Go.Proofs.YtjlohahknngmmaaDoor Go.Proofs.YtjlohahknngmmaaDoorW.PrintWords Go.Proofs.YtjlohahknngmmaaDoorW.PrintLast

def stepR (x : Int) : Int := if x % 2 = 1 then Go.bits .xor .u32 (x / 2) 2197175160 else x / 2
def steps : Nat → Int → Int
  | 0, x => x
  | n + 1, x => steps n (stepR x)
def crcByte (x : Int) (c : UInt8) : Int := steps 8 (Go.bits .xor .u32 x (c.toNat : Int))
def crcOf (l : List UInt8) : Int := Go.bits .xor .u32 (l.foldl crcByte 4294967295) 4294967295

theorem xor_range (x y : Int) : 0 ≤ Go.bits .xor .u32 x y ∧ Go.bits .xor .u32 x y < 4294967296 := by
  show 0 ≤ IntKind.u32.wrap _ ∧ IntKind.u32.wrap _ < _
  have h : ∀ z : Int, 0 ≤ IntKind.u32.wrap z ∧ IntKind.u32.wrap z < 4294967296 := fun z => by
    show 0 ≤ z % 4294967296 ∧ z % 4294967296 < 4294967296
    omega
  exact h _
theorem xor_comm (x y : Int) : Go.bits .xor .u32 x y = Go.bits .xor .u32 y x := by
  show IntKind.u32.wrap ((BitVec.ofInt 32 x ^^^ BitVec.ofInt 32 y).toNat : Int) = IntKind.u32.wrap ((BitVec.ofInt 32 y ^^^ BitVec.ofInt 32 x).toNat : Int)
  rw [BitVec.xor_comm]
theorem xor_zero (x : Int) (h : 0 ≤ x) (h' : x < 4294967296) : Go.bits .xor .u32 x 0 = x := by
  show IntKind.u32.wrap ((BitVec.ofInt 32 x ^^^ BitVec.ofInt 32 0).toNat : Int) = x
  obtain ⟨n, rfl⟩ := Int.eq_ofNat_of_zero_le h
  rw [show (0 : Int) = ((0 : Nat) : Int) from rfl, bv_nat, bv_nat, BitVec.toNat_xor, BitVec.toNat_ofNat, BitVec.toNat_ofNat, Nat.mod_eq_of_lt (by omega), Nat.zero_mod, Nat.xor_zero]
  exact u32w (by omega) (by omega)
theorem and_one (x : Int) (h : 0 ≤ x) (h' : x < 4294967296) : Go.bits .and .u32 x 1 = x % 2 := by
  show IntKind.u32.wrap ((BitVec.ofInt 32 x &&& BitVec.ofInt 32 1).toNat : Int) = x % 2
  obtain ⟨n, rfl⟩ := Int.eq_ofNat_of_zero_le h
  rw [show (1 : Int) = ((1 : Nat) : Int) from rfl, bv_nat, bv_nat, BitVec.toNat_and, BitVec.toNat_ofNat, BitVec.toNat_ofNat, Nat.mod_eq_of_lt (by omega), show 1 % 2 ^ 32 = 1 from rfl, Nat.and_one_is_mod]
  exact u32w (by omega) (by omega)
theorem stepC (x : Int) (h : 0 ≤ x) (h' : x < 4294967296) : Go.bits .xor .u32 (x / 2) (Go.bits .and .u32 2197175160 ((-(Go.bits .and .u32 x 1)) % 4294967296)) = stepR x := by
  rw [and_one x h h']
  unfold stepR
  by_cases hp : x % 2 = 1
  · rw [if_pos hp, hp]
    rw [show Go.bits .and .u32 2197175160 (-1 % 4294967296) = 2197175160 by decide +kernel]
  · rw [if_neg hp, show x % 2 = 0 by omega, show Go.bits .and .u32 2197175160 (-0 % 4294967296) = 0 by decide +kernel]
    exact xor_zero _ (by omega) (by omega)
theorem stepR_range (x : Int) (h : 0 ≤ x) (h' : x < 4294967296) : 0 ≤ stepR x ∧ stepR x < 4294967296 := by
  unfold stepR
  split
  · exact xor_range _ _
  · omega

theorem steps_range (n : Nat) : ∀ x : Int, 0 ≤ x → x < 4294967296 → 0 ≤ steps n x ∧ steps n x < 4294967296 := by
  induction n with
  | zero => exact fun x h h' => ⟨h, h'⟩
  | succ n ih => exact fun x h h' => ih _ (stepR_range x h h').1 (stepR_range x h h').2

theorem fold_range (l : List UInt8) : ∀ x : Int, 0 ≤ x → x < 4294967296 → 0 ≤ l.foldl crcByte x ∧ l.foldl crcByte x < 4294967296 := by
  induction l with
  | nil => exact fun x h h' => ⟨h, h'⟩
  | cons c l ih => exact fun x h h' => ih _ (steps_range 8 _ (xor_range _ _).1 (xor_range _ _).2).1 (steps_range 8 _ (xor_range _ _).1 (xor_range _ _).2).2

theorem crc_range (l : List UInt8) : 0 ≤ crcOf l ∧ crcOf l < 4294967296 := xor_range _ _
end Go.Proofs.YtjlohahknngmmaaDoor.PureQ
/- The check sum of the program's Writers' part. -/
namespace Go.Proofs.YtjlohahknngmmaaDoor.PureC
set_option linter.unusedVariables false
open Go Go.RowKit Go.Proofs.YtjlohahknngmmaaDoor Go.Proofs.YtjlohahknngmmaaDoor.PC Go.Proofs.YtjlohahknngmmaaDoor.PureQ Go.Proofs.YtjlohahknngmmaaDoorW.PrintWords Go.Proofs.YtjlohahknngmmaaDoorW.PrintLast

/-- The program's round over one byte: 8 turns. -/
theorem codec_turns (s : ByteArray) (n6 n7 : Int) (r : Int) (d : Nat) : ∀ (i : Nat) (x : Int), i + d = 8 → 0 ≤ x → x < 4294967296 →
    Ev (fun k => codec_Crc.l0 k s (steps d x) n6 (wrap64 (n7 + 1))) r → Ev (fun k => codec_Crc.l1 k s x n6 n7 (i : Int)) r := by
  induction d with
  | zero =>
    intro i x hi h0 h1 k
    exact Ev.step (fun k => by simp only [codec_Crc.l1]; exact rfl) (evIfNeg (by omega) k)
  | succ d ih =>
    intro i x hi h0 h1 k
    refine Ev.step (fun k => by simp only [codec_Crc.l1]; exact rfl) (evIfPos (by omega) ?_)
    rw [stepC x h0 h1, wrap64_succ (by omega)]
    exact ih (i + 1) _ (by omega) (stepR_range x h0 h1).1 (stepR_range x h0 h1).2 k
theorem codec_loop (s : ByteArray) (hs : s.size < 9223372036854775807) (d : Nat) : ∀ (i : Nat), i + d = s.size → Ev (fun k => codec_Crc.l0 k s ((s.data.toList.take i).foldl crcByte 4294967295) (s.size : Int) (i : Int)) (crcOf s.data.toList) := by
  have hl : s.data.toList.length = s.size := Array.length_toList
  induction d with
  | zero =>
    intro i hi
    refine Ev.step (fun k => by simp only [codec_Crc.l0]; exact rfl) (evIfNeg (by omega) ?_)
    rw [List.take_of_length_le (by omega), xor_comm]
    exact Ev.now _
  | succ d ih =>
    intro i hi
    obtain ⟨b, hb, ht, _⟩ := bt_nat' s i (by omega)
    have h1 := ih (i + 1) (by omega)
    rw [ht, List.foldl_append] at h1
    have hr := fold_range (s.data.toList.take i) 4294967295 (by decide) (by decide)
    generalize (s.data.toList.take i).foldl crcByte 4294967295 = x at *
    have hb256 := b.toNat_lt
    refine Ev.step (fun k => by simp only [codec_Crc.l0]; exact rfl) (evIfPos (by omega) (evIfPos (by omega) (evIfPos (by omega) ?_)))
    rw [hb, show ((b.toNat : Int)) % 4294967296 = (b.toNat : Int) by omega]
    refine codec_turns s _ _ _ 8 0 _ rfl (xor_range _ _).1 (xor_range _ _).2 ?_
    rw [wrap64_succ (by omega)]
    exact h1
theorem codec_crc (s : ByteArray) (hs : s.size < 9223372036854775807) : Ev (fun k => codec_Crc.f k s) (crcOf s.data.toList) := by
  have h := codec_loop s hs s.size 0 (by omega)
  exact h
end Go.Proofs.YtjlohahknngmmaaDoor.PureC
/- Walks of the codec's Writer: put over a row of its own, and what leads to it. -/
namespace Go.Proofs.YtjlohahknngmmaaDoor
open Go Go.RowKit Go.Proofs.YtjlohahknngmmaaDoorW.PrintWords Go.Proofs.YtjlohahknngmmaaDoor.PC
set_option linter.unusedVariables false
set_option linter.unusedSimpArgs false

theorem infoByteC : (Tryd.prog.info? 5).map (fun i => (i.zero, i.size, i.bytes)) = some (some (.int .u8 0), 1, 1) := by kernel_rfl

/-- A Writer in block b, its bytes l in a row of its own. -/
def Wr (B b : Nat) (most : Int) (over : Bool) (v : Value) (l : List Int) (w : World) : Prop :=
  w.heap[b]? = some (.cells #[.int .i64 most, v, .bool over] 63 (0, 0)) ∧ w.ownsRow B 5 1 v l.length (nums .u8 l) ∧ B ≤ b

/-- What a call on a Writer leaves. -/
def WPost (B b : Nat) (most : Int) (v : Value) (p : Bool × List Int) (w w' : World) : Prop :=
  ∃ v', Wr B b most p.1 v' p.2 w' ∧ Below B w w' ∧ KeepBut w w' b v.ownBlock ∧ (v'.ownBlock = v.ownBlock ∨ ∃ c, v'.ownBlock = some c ∧ w.heap.size ≤ c)

def putP (most : Int) (over : Bool) (l xs : List Int) : Bool × List Int :=
  if over = true then (true, l) else if most - l.length < xs.length then (true, l) else (false, l ++ xs)

theorem Wr.lt {B b : Nat} {most : Int} {over : Bool} {v : Value} {l : List Int} {w : World} (h : Wr B b most over v l w) : b < w.heap.size := blk_lt h.1
theorem Wr.own_ne {B b : Nat} {most : Int} {over : Bool} {v : Value} {l : List Int} {w : World} (h : Wr B b most over v l w) : v.ownBlock ≠ some b := by
  obtain ⟨hb, ho, _⟩ := h
  rcases ho.2 with ⟨rfl, _⟩ | ⟨g, cap, cur, rfl, _, hg, _⟩
  · simp [Value.ownBlock]
  · intro h
    simp only [Value.ownBlock, Option.some.injEq] at h
    subst h
    rw [hb] at hg
    injection hg with hg
    injection hg with _ h2
    exact absurd h2 (by decide)

/-- A Writer stands while a call turns neither its block nor its row. -/
theorem Wr.keep {B b : Nat} {most : Int} {over : Bool} {v : Value} {l : List Int} {w w' : World} (h : Wr B b most over v l w) {g : Nat} {row : Option Nat} (hk : KeepBut w w' g row) (h1 : b ≠ g) (h2 : some b ≠ row) (h3 : v.ownBlock ≠ some g) (h4 : v.ownBlock = none ∨ v.ownBlock ≠ row) : Wr B b most over v l w' := by
  obtain ⟨hb, ho, hB⟩ := h
  refine ⟨(hk.2 b (blk_lt hb) h1 h2).trans hb, ⟨ho.1, ?_⟩, hB⟩
  rcases ho.2 with h | ⟨g', cap, cur, rfl, hg0, hg, r⟩
  · exact .inl h
  · refine .inr ⟨g', cap, cur, rfl, hg0, ?_, r⟩
    have hlt := blk_lt hg
    rw [hk.2 g' hlt (fun e => h3 (by simp [Value.ownBlock, e])) ?_]
    · exact hg
    · rcases h4 with h | h
      · simp [Value.ownBlock] at h
      · exact fun e => h (by simp [Value.ownBlock] at e ⊢; exact e)

theorem own_keep {w w1 : World} {g base : Nat} {v : Value} {n : Nat} {xs : List Value} (h : KeepBut w w1 g none) (ho : w.ownsRow base 5 1 v n xs) (hg : v.ownBlock ≠ some g) : w1.ownsRow base 5 1 v n xs := by
  refine h.own ho hg ?_
  cases hv : v.ownBlock with
  | none => exact .inl rfl
  | some x => exact .inr (by simp)
theorem Wr.drewN {B b : Nat} {most : Int} {over : Bool} {v : Value} {l : List Int} {w : World} (h : Wr B b most over v l w) (n : Nat) : Wr B b most over v l (w.drewN n) := h

set_option maxHeartbeats 1000000 in
set_option maxRecDepth 100000 in
theorem put_some (B b : Nat) (most : Int) (over : Bool) (v : Value) (l : List Int) (A : Option Addr) (n c : Nat) (xs : List Int) (w : World) (h : Wr B b most over v l w) (hx : ReadsInt w .u8 A n xs) (hm : 0 ≤ most) (hm2 : most ≤ 9223372036854775807) (hl : l.length + xs.length ≤ 140737488355328) (hB : B ≤ w.heap.size) :
    Calls Tryd.prog 33 #[.pointer (some ⟨b, 0, none⟩), .slice A n c] w fun e w' => e = .returned (.tuple #[]) ∧ WPost B b most v (putP most over l xs) w w' := by
  obtain rfl := hx.1
  have hup := Tryd.underlying33
  have hu := Tryd.underlying63
  have HW := Lib.hid h
  obtain ⟨hb, ho, hBb⟩ := h
  have c0 : w.cell? ⟨b, 0, none⟩ = some (.int .i64 most) := (blk_cell hb _).trans rfl
  have c1 : w.cell? ⟨b, 1, none⟩ = some v := (blk_cell hb _).trans rfl
  have c2 : w.cell? ⟨b, 2, none⟩ = some (.bool over) := (blk_cell hb _).trans rfl
  have f1 : w.frozen? ⟨b, 1, none⟩ = false := blk_frozen hb 1
  have f2 : w.frozen? ⟨b, 2, none⟩ = false := blk_frozen hb 2
  obtain ⟨va, vn, vc, rfl, hvn⟩ : ∃ va vn vc, v = .slice va vn vc ∧ vn = l.length := by
    rcases ho.2 with ⟨rfl, h0⟩ | ⟨g, cap, cur, rfl, _⟩
    · exact ⟨_, _, _, rfl, h0.symm⟩
    · exact ⟨_, _, _, rfl, rfl⟩
  subst hvn
  have Hb := Lib.hid hb
  have Ho := Lib.hid ho
  have HX := Lib.hid hx
  clear hb ho hx
  cases over with
  | true =>
    go_enter Tryd.func33, Tryd.ntmps33
    go_wp2
    go_end0
    exact ⟨rfl, .slice va l.length vc, by simpa [putP] using HW.out, Below.refl _ _, KeepBut.refl _ _ _, .inl rfl⟩
  | false =>
    have hown : l.length ≤ 140737488355328 := by omega
    cases hd : decide (most - (l.length : Int) < (xs.length : Int)) with
    | true =>
      have Hd := Lib.hid hd
      go_enter Tryd.func33, Tryd.ntmps33
      go_wp2_with (go_quiet (fail))
      go_end0
      refine ⟨rfl, .slice va l.length vc, ?_, (pw_below_drewN (Below.refl B w) nq).setCell (p := ⟨b, 2, none⟩) hBb _, (keep_drewN (KeepBut.refl w b _) nq).set_ 2 _, .inl rfl⟩
      have hP : putP most false l xs = (true, l) := by simp only [putP, Bool.false_eq_true, if_false]; rw [if_pos (of_decide_eq_true Hd.out)]
      rw [hP]
      have hne := HW.out.own_ne
      exact ⟨(blk_set (w := w.drewN nq) Hb.out 2 (.bool true)).trans rfl, own_keep ((keep_drewN (KeepBut.refl w b none) nq).set_ 2 (.bool true)) Ho.out hne, hBb⟩
    | false =>
      have Hd := Lib.hid hd
      go_enter Tryd.func33, Tryd.ntmps33
      go_wp2_with (first | go_quiet (fail) | ((with_reducible refine gate_builtin (b := .append) (xs := #[.tmp 8, .tmp 9]) rfl ?_); at_builtin; refine print_append_row (w0 := w) B rfl (.tmp 8) (.tmp 9) 47 5 .u8 1 rfl Tryd.underlying47 infoByteC (by decide) (.slice va l.length vc) l xs A xs.length c rfl rfl Ho.out HX.out (pw_below_drewN (Below.refl B w) _) hB (by omega) ?_))
      intro v1 w1 hown1 hb1 hg1 hat
      obtain ⟨ao, n', cap, rfl⟩ : ∃ ao n' cap, v1 = .slice ao n' cap := by
        rcases hown1.2 with ⟨hv, _⟩ | ⟨g, cap, cur, hv, _⟩
        · exact ⟨_, _, _, hv⟩
        · exact ⟨_, _, _, hv⟩
      have hne := HW.out.own_ne
      have hb2 := blk_grown (w := w.drewN nq) Hb.out hg1 (fun e => hne e.symm)
      have d0 : w1.cell? ⟨b, 0, none⟩ = some (.int .i64 most) := (blk_cell hb2 _).trans rfl
      have d1 : w1.cell? ⟨b, 1, none⟩ = some (.slice va l.length vc) := (blk_cell hb2 _).trans rfl
      have e1 : w1.frozen? ⟨b, 1, none⟩ = false := blk_frozen hb2 1
      have Hown1 := Lib.hid hown1
      have Hb1 := Lib.hid hb1
      have Hb2 := Lib.hid hb2
      have Hg1 := Lib.hid hg1
      have Hat := Lib.hid hat
      clear hown1 hb1 hg1 hat hb2
      go_wp2
      go_end0
      have hP : putP most false l xs = (false, l ++ xs) := by simp only [putP, Bool.false_eq_true, if_false]; rw [if_neg (of_decide_eq_false Hd.out)]
      rw [hP]
      have hk1 : KeepBut w w1 b (Value.slice va l.length vc).ownBlock := KeepBut.of_grown (w := w.drewN nq) Hg1.out b
      have hne1 : (Value.slice ao n' cap).ownBlock ≠ some b := by
        rcases Hat.out with e | ⟨q, e, hq⟩
        · rw [e]; exact hne
        · rw [e]; intro h; injection h with h; have := HW.out.lt; rw [h] at hq; exact absurd hq (Nat.not_le_of_lt this)
      exact ⟨rfl, .slice ao n' cap, ⟨(blk_set Hb2.out 1 (.slice ao n' cap)).trans rfl, own_keep ((KeepBut.refl w1 b none).set_ 1 (.slice ao n' cap)) (by have h := Hown1.out; rw [← List.length_append] at h; exact h) hne1, hBb⟩, Hb1.out.setCell (p := ⟨b, 1, none⟩) hBb _, hk1.set_ 1 _, Hat.out⟩

set_option maxHeartbeats 1000000 in
set_option maxRecDepth 100000 in
theorem put_nil (x : Value) (w : World) : Calls Tryd.prog 33 #[.pointer none, x] w fun e w' => e = .returned (.tuple #[]) ∧ w' = w := by
  have hup := Tryd.underlying33
  go_enter Tryd.func33, Tryd.ntmps33
  go_wp2
  go_end0
  exact ⟨rfl, rfl⟩

/-- What whatever is put leads to: put's own contract at a slice that holds these bytes. -/
def Puts (p : Value) (xs : List Int) (w : World) (Q : World → Prop) : Prop :=
  ∀ A n c w1, ReadsInt w1 .u8 A n xs → Below w.heap.size w w1 → Calls Tryd.prog 33 #[p, .slice A n c] w1 fun e w' => e = .returned (.tuple #[]) ∧ Q w'

theorem reads_of_R {w : World} {base : Nat} {ok : Nat → Prop} {v : Value} {xs : List Int} (h : Kd.R (Kd.int .u8) 5 w base ok v xs) : ∃ A c, v = .slice A xs.length c ∧ ReadsInt w .u8 A xs.length xs := by
  obtain ⟨A, c, he, _, hc⟩ := Kd.R_reads h
  exact ⟨A, c, he, Kd.reads_of_C (d := (0 : Int)) hc⟩

theorem reads_of_own {w : World} {base : Nat} {v : Value} {xs : List Int} (h : w.ownsRow base 5 1 v xs.length (nums .u8 xs)) : ∃ A c, v = .slice A xs.length c ∧ ReadsInt w .u8 A xs.length xs :=
  reads_of_R (ok := fun _ => True) (Kd.R_of_own h (fun _ _ => trivial))

set_option maxHeartbeats 1000000 in
set_option maxRecDepth 100000 in
theorem varint_put (p : Value) (k : Nat) (n : Int) (xs : List Int) (w : World) (hv : codec_varint.f k n = some xs) (Q : World → Prop) (hq : Puts p xs w Q) :
    Calls Tryd.prog 16 #[p, .int .u64 n] w fun e w' => e = .returned (.tuple #[]) ∧ Q w' := by
  have HQ := Lib.hid hq
  have HV := Lib.hid hv
  clear hq hv
  go_enter Tryd.func16, Tryd.ntmps16
  go_wp2_with (go_at_call 34; refine (codec_varint.calls k n xs _ HV.out).mono ?_)
  rintro e w1 ⟨v0, rfl, hR, hb⟩
  obtain ⟨A, c, rfl, hr⟩ := reads_of_R hR
  have Hr := Lib.hid hr
  have Hb := Lib.hid hb
  clear hR hr hb
  go_wp2_with (go_at_call 33; refine (HQ.out A _ c _ Hr.out Hb.out).mono ?_)
  rintro e w2 ⟨rfl, hQ⟩
  have HQ2 := Lib.hid hQ
  clear hQ
  go_wp2
  go_end0
  exact ⟨rfl, HQ2.out⟩

set_option maxHeartbeats 1000000 in
set_option maxRecDepth 100000 in
theorem text_put (p : Value) (k : Nat) (s : ByteArray) (xs : List Int) (w : World) (hs : s.size ≤ 9223372036854775807) (hv : codec_varint.f k (s.size : Int) = some xs) (hl : xs.length + s.size ≤ 140737488355328) (Q : World → Prop) (hq : Puts p (xs ++ bytesOf s) w Q) :
    Calls Tryd.prog 17 #[p, .string s] w fun e w' => e = .returned (.tuple #[]) ∧ Q w' := by
  have HQ := Lib.hid hq
  have HV := Lib.hid hv
  have hw : IntKind.u64.wrap (s.size : Int) = (s.size : Int) := by
    show (s.size : Int) % 18446744073709551616 = _
    omega
  clear hq hv
  go_enter Tryd.func17, Tryd.ntmps17
  go_wp2_with (go_at_call 34; refine (codec_varint.calls k _ xs _ HV.out).mono ?_)
  rintro e w1 ⟨v0, rfl, hR, hb⟩
  have Ho := Lib.hid (Kd.own_of_R hR)
  have Hb := Lib.hid hb
  clear hR hb
  go_wp2_with ((with_reducible refine gate_builtin (b := .append) (xs := #[.tmp 8, .tmp 9]) rfl ?_); at_builtin; refine print_append_str (w0 := w) w.heap.size rfl (.tmp 8) (.tmp 9) 47 9 5 rfl Tryd.underlying47 Tryd.underlying9 infoByteC v0 xs s rfl rfl Ho.out Hb.out Hb.out.size hl ?_)
  intro v1 w2 hown2 hb2 hg2
  rw [← List.length_append] at hown2
  obtain ⟨A, c, hv1, hr⟩ := reads_of_own hown2
  generalize (xs ++ bytesOf s).length = nn at hv1 hr
  subst hv1
  have Hr := Lib.hid hr
  have Hb2 := Lib.hid hb2
  clear hown2 hr hb2 hg2
  go_wp2_with (go_at_call 33; refine (HQ.out A _ c _ Hr.out Hb2.out).mono ?_)
  rintro e w3 ⟨rfl, hQ⟩
  have HQ2 := Lib.hid hQ
  clear hQ
  go_wp2
  go_end0
  exact ⟨rfl, HQ2.out⟩
end Go.Proofs.YtjlohahknngmmaaDoor
/- Walks of the codec's Writer: numbers of 1, 2, 4 and 8 bytes. Printed by cdb.py. -/
namespace Go.Proofs.YtjlohahknngmmaaDoor
open Go Go.RowKit Go.Proofs.YtjlohahknngmmaaDoorW.PrintWords Go.Proofs.YtjlohahknngmmaaDoor.PC
set_option linter.unusedVariables false
set_option linter.unusedSimpArgs false

/-- n in so many bytes, the highest first. -/
def nb (n : Int) : Nat → List Int
  | 0 => []
  | k + 1 => nb (n / 256) k ++ [n % 256]
theorem nb_length (n : Int) (k : Nat) : (nb n k).length = k := by
  induction k generalizing n with
  | zero => rfl
  | succ k ih => simp [nb, ih]
theorem nb_step (n m : Int) (z i : Nat) (sfx : List Int) (hi : i < z) (h : nb n z = nb m (z - i) ++ sfx) : nb n z = nb (m / 16 / 16) (z - (i + 1)) ++ (m % 256 :: sfx) := by
  rw [h, show z - i = z - (i + 1) + 1 by omega, nb, show m / 16 / 16 = m / 256 by omega]
  simp
theorem set_rep (m : Nat) (x : Int) (sfx : List Int) : (List.replicate (m + 1) (0 : Int) ++ sfx).set m x = List.replicate m 0 ++ (x :: sfx) := by
  rw [List.replicate_succ', List.append_assoc]
  rw [List.set_append]
  simp

set_option maxHeartbeats 1000000 in
set_option maxRecDepth 100000 in
theorem number_u8 (p : Value) (n : Int) (w : World) (h0 : 0 ≤ n) (hn : n ≤ 255) (Q : World → Prop) (hq : Puts p (nb n 1) w Q) :
    Calls Tryd.prog 38 #[p, .int .u8 n, .int .i64 1] w fun e w' => e = .returned (.tuple #[]) ∧ Q w' := by
  have HQ := Lib.hid hq
  clear hq
  have km : (Instr.makeSlice 47 (.int .i64 1) (.int .i64 1)).run Tryd.prog w = _ := print_make (P := Tryd.prog) 47 5 .u8 1 Tryd.underlying47 infoByteC (by decide) 1 (by decide) w
  have Hmade := Lib.hid (own_made w w.heap.size 5 .u8 1 (Nat.le_refl _) (by decide))
  have Hb0 := Lib.hid (below_alloc (Below.refl w.heap.size w) (.cells (madeCells #[.int .u8 0] 1) 5))
  generalize w.alloc (.cells (madeCells #[.int .u8 0] 1) 5) = W0 at km Hmade Hb0
  generalize hB : w.heap.size = B at km Hmade
  have HB := Lib.hid hB
  clear hB
  go_enter Tryd.func38, Tryd.ntmps38
  go_wp2
  go_loopw [1, 12] (fun nv iv wr => ∃ (i : Nat) (m : Int) (sfx : List Int), i ≤ 1 ∧ sfx.length = i ∧ 0 ≤ m ∧ m ≤ 255 ∧ nv = .int .u8 m ∧ iv = .int .i64 i ∧ Hid (nb n 1 = nb m (1 - i) ++ sfx) ∧ Hid (Kd.R (Kd.int .u8) 5 wr B (fun _ => True) (.slice (some ⟨B, 0, none⟩) 1 1) (List.replicate (1 - i) 0 ++ sfx)) ∧ Hid (Below w.heap.size w wr)) (fun _ iv _ => 1 - (intOf iv).toNat)
  case atStart => exact ⟨0, n, [], by omega, rfl, h0, hn, rfl, rfl, by show _ = _; simp, Kd.R_of_own (enc := Value.int .u8) (xs := List.replicate 1 0 ++ []) (by have h := Hmade.out; rw [List.append_nil]; exact h) (fun _ _ => trivial), Hb0.out⟩
  case round =>
    obtain ⟨i, m, sfx, hi, hsl, hm0, hm1, rfl, rfl, Hn, HR, Hb⟩ := hrel
    by_cases hp : i < 1
    · obtain rfl : i = 0 := by omega
      have hc := Kd.R_celln (0 : Int) HR.out (((1 - 1 - 0 : Nat) : Int)) (by omega) (by omega)
      have Hput := Lib.hid (Kd.R_putn HR.out (((1 - 1 - 0 : Nat) : Int)) (m % 256))
      have Hset := Lib.hid (set_rep (1 - 1 - 0) (m % 256) sfx)
      simp only [Int.toNat_natCast] at hc
      have hc1 := hc.1
      have hc2 := hc.2
      clear hc
      have Hn2 := Lib.hid (nb_step n m 1 0 sfx (by omega) Hn.out)
      go_wp2
      go_roundw
      case rel =>
        refine ⟨0 + 1, m / 16 / 16, (m % 256) :: sfx, by omega, by simp [hsl], by omega, by omega, rfl, by go_num, Hn2.out, ?_, Hb.out.setCell (p := ⟨B, _, none⟩) (by rw [HB.out]; exact Nat.le_refl _) _⟩
        have h := Hput.out
        rw [show 1 - 0 = 1 - 1 - 0 + 1 by omega] at h
        simp only [Int.toNat_natCast, Hset.out] at h
        rw [show 1 - (0 + 1) = 1 - 1 - 0 by omega]
        have hmm : m % 256 = m := by omega
        rw [hmm] at h ⊢
        exact h
      case measure => simp [intOf] <;> omega
    · obtain rfl : i = 1 := by omega
      have hr : ReadsInt wr .u8 (some ⟨B, 0, none⟩) 1 (nb n 1) := by
        have h1 := Hn.out
        have h2 := HR.out
        simp only [Nat.sub_self, nb, List.nil_append, List.replicate_zero] at h1 h2
        rw [show nb n 1 = sfx from h1]
        obtain ⟨A, c, he, _, hc⟩ := Kd.R_reads h2
        injection he with e1 e2 e3
        subst e1
        rw [hsl] at hc
        exact Kd.reads_of_C (d := (0 : Int)) hc
      have Hr := Lib.hid hr
      clear hr
      go_wp2_with (go_at_call 33; refine (HQ.out _ _ _ _ Hr.out Hb.out).mono ?_)
      rintro e w2 ⟨rfl, hQ⟩
      have HQ2 := Lib.hid hQ
      clear hQ
      go_wp2
      go_end0
      exact ⟨rfl, HQ2.out⟩

set_option maxHeartbeats 1000000 in
set_option maxRecDepth 100000 in
theorem u8_put (p : Value) (n : Int) (w : World) (h0 : 0 ≤ n) (hn : n ≤ 255) (Q : World → Prop) (hq : Puts p (nb n 1) w Q) :
    Calls Tryd.prog 23 #[p, .int .u8 n] w fun e w' => e = .returned (.tuple #[]) ∧ Q w' := by
  have HQ := Lib.hid hq
  clear hq
  go_enter Tryd.func23, Tryd.ntmps23
  go_wp2_with (go_at_call 38; refine (number_u8 p n _ h0 hn Q HQ.out).mono ?_)
  rintro e w2 ⟨rfl, hQ⟩
  have HQ2 := Lib.hid hQ
  clear hQ
  go_wp2
  go_end0
  exact ⟨rfl, HQ2.out⟩

set_option maxHeartbeats 1000000 in
set_option maxRecDepth 100000 in
theorem number_u64 (p : Value) (n : Int) (w : World) (h0 : 0 ≤ n) (hn : n ≤ 18446744073709551615) (Q : World → Prop) (hq : Puts p (nb n 8) w Q) :
    Calls Tryd.prog 39 #[p, .int .u64 n, .int .i64 8] w fun e w' => e = .returned (.tuple #[]) ∧ Q w' := by
  have HQ := Lib.hid hq
  clear hq
  have km : (Instr.makeSlice 47 (.int .i64 8) (.int .i64 8)).run Tryd.prog w = _ := print_make (P := Tryd.prog) 47 5 .u8 1 Tryd.underlying47 infoByteC (by decide) 8 (by decide) w
  have Hmade := Lib.hid (own_made w w.heap.size 5 .u8 8 (Nat.le_refl _) (by decide))
  have Hb0 := Lib.hid (below_alloc (Below.refl w.heap.size w) (.cells (madeCells #[.int .u8 0] 8) 5))
  generalize w.alloc (.cells (madeCells #[.int .u8 0] 8) 5) = W0 at km Hmade Hb0
  generalize hB : w.heap.size = B at km Hmade
  have HB := Lib.hid hB
  clear hB
  go_enter Tryd.func39, Tryd.ntmps39
  go_wp2
  go_loopw [1, 12] (fun nv iv wr => ∃ (i : Nat) (m : Int) (sfx : List Int), i ≤ 8 ∧ sfx.length = i ∧ 0 ≤ m ∧ m ≤ 18446744073709551615 ∧ nv = .int .u64 m ∧ iv = .int .i64 i ∧ Hid (nb n 8 = nb m (8 - i) ++ sfx) ∧ Hid (Kd.R (Kd.int .u8) 5 wr B (fun _ => True) (.slice (some ⟨B, 0, none⟩) 8 8) (List.replicate (8 - i) 0 ++ sfx)) ∧ Hid (Below w.heap.size w wr)) (fun _ iv _ => 8 - (intOf iv).toNat)
  case atStart => exact ⟨0, n, [], by omega, rfl, h0, hn, rfl, rfl, by show _ = _; simp, Kd.R_of_own (enc := Value.int .u8) (xs := List.replicate 8 0 ++ []) (by have h := Hmade.out; rw [List.append_nil]; exact h) (fun _ _ => trivial), Hb0.out⟩
  case round =>
    obtain ⟨i, m, sfx, hi, hsl, hm0, hm1, rfl, rfl, Hn, HR, Hb⟩ := hrel
    by_cases hp : i < 8
    · have hc := Kd.R_celln (0 : Int) HR.out (((8 - 1 - i : Nat) : Int)) (by omega) (by omega)
      have Hput := Lib.hid (Kd.R_putn HR.out (((8 - 1 - i : Nat) : Int)) (m % 256))
      have Hset := Lib.hid (set_rep (8 - 1 - i) (m % 256) sfx)
      simp only [Int.toNat_natCast] at hc
      have hc1 := hc.1
      have hc2 := hc.2
      clear hc
      have Hn2 := Lib.hid (nb_step n m 8 i sfx (by omega) Hn.out)
      go_wp2
      go_roundw
      case rel =>
        refine ⟨i + 1, m / 16 / 16, (m % 256) :: sfx, by omega, by simp [hsl], by omega, by omega, rfl, by go_num, Hn2.out, ?_, Hb.out.setCell (p := ⟨B, _, none⟩) (by rw [HB.out]; exact Nat.le_refl _) _⟩
        have h := Hput.out
        rw [show 8 - i = 8 - 1 - i + 1 by omega] at h
        simp only [Int.toNat_natCast, Hset.out] at h
        rw [show 8 - (i + 1) = 8 - 1 - i by omega]
        exact h
      case measure => simp [intOf] <;> omega
    · obtain rfl : i = 8 := by omega
      have hr : ReadsInt wr .u8 (some ⟨B, 0, none⟩) 8 (nb n 8) := by
        have h1 := Hn.out
        have h2 := HR.out
        simp only [Nat.sub_self, nb, List.nil_append, List.replicate_zero] at h1 h2
        rw [show nb n 8 = sfx from h1]
        obtain ⟨A, c, he, _, hc⟩ := Kd.R_reads h2
        injection he with e1 e2 e3
        subst e1
        rw [hsl] at hc
        exact Kd.reads_of_C (d := (0 : Int)) hc
      have Hr := Lib.hid hr
      clear hr
      go_wp2_with (go_at_call 33; refine (HQ.out _ _ _ _ Hr.out Hb.out).mono ?_)
      rintro e w2 ⟨rfl, hQ⟩
      have HQ2 := Lib.hid hQ
      clear hQ
      go_wp2
      go_end0
      exact ⟨rfl, HQ2.out⟩

set_option maxHeartbeats 1000000 in
set_option maxRecDepth 100000 in
theorem u64_put (p : Value) (n : Int) (w : World) (h0 : 0 ≤ n) (hn : n ≤ 18446744073709551615) (Q : World → Prop) (hq : Puts p (nb n 8) w Q) :
    Calls Tryd.prog 24 #[p, .int .u64 n] w fun e w' => e = .returned (.tuple #[]) ∧ Q w' := by
  have HQ := Lib.hid hq
  clear hq
  go_enter Tryd.func24, Tryd.ntmps24
  go_wp2_with (go_at_call 39; refine (number_u64 p n _ h0 hn Q HQ.out).mono ?_)
  rintro e w2 ⟨rfl, hQ⟩
  have HQ2 := Lib.hid hQ
  clear hQ
  go_wp2
  go_end0
  exact ⟨rfl, HQ2.out⟩

end Go.Proofs.YtjlohahknngmmaaDoor
/- Walks of the codec's Writer: NewWriter, Len, Done; of a nil one. -/
namespace Go.Proofs.YtjlohahknngmmaaDoor
open Go Go.RowKit Go.Proofs.YtjlohahknngmmaaDoorW.PrintWords Go.Proofs.YtjlohahknngmmaaDoorW.PrintMore Go.Proofs.YtjlohahknngmmaaDoorW.PrintLast Go.Proofs.YtjlohahknngmmaaDoor.PC
set_option linter.unusedVariables false
set_option linter.unusedSimpArgs false

attribute [local go_sem] max2_int min2_int max_two min_two max_three min_three max_four min_four
open Go.Proofs.YtjlohahknngmmaaDoorW.PrintMore Go.Proofs.YtjlohahknngmmaaDoorW.PrintLast in
set_option maxHeartbeats 1000000 in
set_option maxRecDepth 100000 in
theorem newWriter_any (most : Int) (B : Nat) (w : World) (hB : B ≤ w.heap.size) :
    Calls Tryd.prog 14 #[.int .i64 most] w fun e w' => ∃ b, e = .returned (.pointer (some ⟨b, 0, none⟩)) ∧ Wr B b (mx most 0) false (.slice none 0 0) [] w' ∧ Below w.heap.size w w' ∧ w.heap.size ≤ b := by
  have hu68 := Tryd.underlying63
  obtain ⟨m, hm⟩ : ∃ m : Int, mx most 0 = m := ⟨_, rfl⟩
  rw [hm]
  have hm2 : (if most < 0 then 0 else most) = m := hm
  clear hm
  go_enter Tryd.func14, Tryd.ntmps14
  go_wp2_with ((with_reducible refine gate_dst (N := 6) rfl ?_); refine box_event ?hg (N := 6) ?hd (cs := #[.int .i64 m, .slice none 0 0, .bool false]) (t := 63) ?hr ?_; (case hd => rfl); (case hg => rfl); (case hr => first | (go_simp; done) | (go_simp; rfl)); intro b hb w1 hbox hbel; have Hbox := Lib.hid hbox; have Hb := Lib.hid hb; have Hbel := Lib.hid hbel; clear hbox hb hbel)
  go_ret
  have hb := Hb.out
  subst hb
  exact ⟨_, rfl, ⟨Hbox.out, World.ownsRow_nil _ _ _ _, hB⟩, Hbel.out, Nat.le_refl _⟩

def doneP (over : Bool) (l : List Int) : ByteArray × Int := if over = true then (⟨#[]⟩, 3) else (strOfNums l, 0)

set_option maxHeartbeats 1000000 in
set_option maxRecDepth 100000 in
theorem done_some (B b : Nat) (most : Int) (over : Bool) (v : Value) (l : List Int) (w : World) (h : Wr B b most over v l w) :
    Calls Tryd.prog 18 #[.pointer (some ⟨b, 0, none⟩)] w fun e w' => e = .returned (.tuple #[.string (doneP over l).1, .int .i64 (doneP over l).2]) ∧ Drawn0 w w' := by
  have hup := Tryd.underlying33
  have hu := Tryd.underlying63
  obtain ⟨hb, ho, hBb⟩ := h
  have c1 : w.cell? ⟨b, 1, none⟩ = some v := (blk_cell hb _).trans rfl
  have c2 : w.cell? ⟨b, 2, none⟩ = some (.bool over) := (blk_cell hb _).trans rfl
  obtain ⟨va, vc, rfl, hr⟩ := reads_of_own ho
  have Hr := Lib.hid hr
  clear hb ho hr
  cases over with
  | true =>
    go_enter Tryd.func18, Tryd.ntmps18
    go_wp2
    go_ret2
    exact ⟨rfl, Drawn0.refl _⟩
  | false =>
    have kc := string_of_reads (P := Tryd.prog) (c := vc) Tryd.underlying47 Tryd.underlying5 Tryd.underlying9 Hr.out
    go_enter Tryd.func18, Tryd.ntmps18
    go_wp2
    go_ret2
    exact ⟨rfl, Drawn0.refl _⟩
end Go.Proofs.YtjlohahknngmmaaDoor
/- Walk: awake, what must come of every program of the codec. -/
namespace Go.Proofs.YtjlohahknngmmaaDoor
open Go Go.RowKit Go.Proofs.YtjlohahknngmmaaDoorW.PrintWords Go.Proofs.YtjlohahknngmmaaDoorW.PrintMore Go.Proofs.YtjlohahknngmmaaDoorW.PrintLast Go.Proofs.YtjlohahknngmmaaDoor.PC
set_option linter.unusedVariables false

/-- A Writer stands where nothing that was there has turned. -/
theorem Wr.below {B b : Nat} {most : Int} {over : Bool} {v : Value} {l : List Int} {w w' : World} (h : Wr B b most over v l w) (hb : Below w.heap.size w w') : Wr B b most over v l w' := by
  have hne := h.own_ne
  obtain ⟨h1, h2, h3⟩ := h
  exact ⟨(hb.block b (blk_lt h1)).trans h1, h2.kept (grown_of_below hb none) (by cases hv : v.ownBlock <;> simp), h3⟩

theorem puts_some {B b : Nat} {most : Int} {over : Bool} {v : Value} {l : List Int} {w : World} (h : Wr B b most over v l w) (xs : List Int) (hm : 0 ≤ most) (hm2 : most ≤ 9223372036854775807) (hl : l.length + xs.length ≤ 140737488355328) (hB : B ≤ w.heap.size) :
    Puts (.pointer (some ⟨b, 0, none⟩)) xs w (fun w2 => WPost B b most v (putP most over l xs) w w2) := by
  intro A n c w1 hx hb
  refine (put_some B b most over v l A n c xs w1 (h.below hb) hx hm hm2 hl (Nat.le_trans hB hb.size)).mono ?_
  rintro e w2 ⟨rfl, v', h1, h2, h3, h4⟩
  refine ⟨rfl, v', h1, (hb.mono hB).trans h2, (KeepBut.of_below hb b _).trans h3 (.inl rfl), ?_⟩
  rcases h4 with h4 | ⟨q, h4, h5⟩
  · exact .inl h4
  · exact .inr ⟨q, h4, Nat.le_trans hb.size h5⟩

theorem WPost.trans_ {B b : Nat} {most : Int} {v v' : Value} {w w1 w2 : World} {p : Bool × List Int} (hb : Below B w w1) (hk : KeepBut w w1 b v.ownBlock) (ha : v'.ownBlock = v.ownBlock ∨ ∃ c, v'.ownBlock = some c ∧ w.heap.size ≤ c) (h : WPost B b most v' p w1 w2) : WPost B b most v p w w2 := by
  obtain ⟨v'', h1, h2, h3, h4⟩ := h
  refine ⟨v'', h1, hb.trans h2, hk.trans h3 ha, ?_⟩
  rcases h4 with h4 | ⟨q, h4, h5⟩
  · rw [h4]; exact ha
  · exact .inr ⟨q, h4, Nat.le_trans hk.1 h5⟩

theorem crc_nine : codec_Crc.f 200 ⟨#[49, 50, 51, 52, 53, 54, 55, 56, 57]⟩ = some 3808858755 := by decide +kernel
theorem varint_300 : codec_varint.f 5 300 = some [172, 2] := by decide +kernel
theorem varint_2 : codec_varint.f 5 (((⟨#[97, 98]⟩ : ByteArray).size : Nat) : Int) = some [2] := by decide +kernel
theorem rVarint_awake : codec_Reader_Varint.f 12 ⟨#[172, 2, 2, 97, 98]⟩ 0 = some (300, ⟨#[2, 97, 98]⟩, 0) := by decide +kernel
theorem rText_awake : codec_Reader_Text.f 12 ⟨#[2, 97, 98]⟩ 0 = some (⟨#[97, 98]⟩, ⟨#[]⟩, 0) := by decide +kernel
theorem rDone_awake : codec_Reader_Done.f ⟨#[]⟩ 0 = some (0, ⟨#[]⟩, 0) := by decide +kernel

set_option maxHeartbeats 2000000 in
set_option maxRecDepth 100000 in
theorem awake_any (w : World) : Calls Tryd.prog 6 #[] w fun e w' => e = .returned (.bool true) ∧ Below w.heap.size w w' := by
  have hup := Tryd.underlying33
  have hup2 := Tryd.underlying41
  go_enter Tryd.func6, Tryd.ntmps6
  go_wp2_with (go_at_call 14; refine (newWriter_any 100 w.heap.size _ (Nat.le_refl _)).mono ?_)
  rintro e w1 ⟨b, rfl, hW, hB1, hb⟩
  have HW : Aside0 (Wr w.heap.size b 100 false (.slice none 0 0) [] w1) := ⟨hW⟩
  have HB1 := Aside0.mk hB1
  clear hW hB1
  go_wp2_with (go_at_call 15; refine (codec_Crc.calls 200 _ 3808858755 _ crc_nine).mono ?_)
  rintro e w2 ⟨rfl, ⟨n, rfl⟩⟩
  go_wp2_with (go_at_call 16; refine (varint_put _ 5 300 [172, 2] _ varint_300 _ (puts_some (HW.out.drewN n) [172, 2] (by decide) (by decide) (by decide) (Nat.le_trans HB1.out.size (Nat.le_refl _)))).mono ?_)
  rintro e w3 ⟨rfl, v3, hW3, hB3, hK3, ha3⟩
  have HW3 : Aside0 (Wr w.heap.size b 100 false v3 [172, 2] w3) := ⟨by simpa [putP] using hW3⟩
  have HB3 := Aside0.mk ((pw_below_drewN HB1.out n).trans hB3)
  clear hW3 hB3 hK3 ha3 HW HB1
  go_wp2_with (go_at_call 17; refine (text_put _ 5 ⟨#[97, 98]⟩ [2] _ (by decide) varint_2 (by decide) _ (puts_some HW3.out ([2] ++ bytesOf ⟨#[97, 98]⟩) (by decide) (by decide) (by decide) HB3.out.size)).mono ?_)
  rintro e w4 ⟨rfl, v4, hW4, hB4, hK4, ha4⟩
  have HW4 : Aside0 (Wr w.heap.size b 100 false v4 [172, 2, 2, 97, 98] w4) := ⟨by simpa [putP, bytesOf] using hW4⟩
  have HB4 := Aside0.mk (HB3.out.trans hB4)
  clear hW4 hB4 hK4 ha4 HW3 HB3
  go_wp2_with (go_at_call 18; refine (done_some _ _ _ _ _ _ _ HW4.out).mono ?_)
  rintro e w5 ⟨rfl, ⟨n5, rfl⟩⟩
  have hd : doneP false [172, 2, 2, 97, 98] = (⟨#[172, 2, 2, 97, 98]⟩, 0) := by decide +kernel
  rw [hd]
  have HB5 := Aside0.mk (pw_below_drewN HB4.out n5)
  clear HB4 HW4 hd
  generalize w4.drewN n5 = w5 at *
  go_wp2_with (go_at_call 19; refine (codec_NewReader.calls _ ⟨#[172, 2, 2, 97, 98]⟩ 0 w _ HB5.out rfl).mono ?_)
  rintro e w6 ⟨g, rfl, hI, hB6, _⟩
  have HI := Aside0.mk hI
  have HB6 := Aside0.mk hB6
  clear hI hB6 HB5
  go_wp2_with (go_at_call 20; refine (codec_Reader_Varint.calls 12 g _ _ 300 ⟨#[2, 97, 98]⟩ 0 w _ HI.out HB6.out rVarint_awake).mono ?_)
  rintro e w7 ⟨rfl, hI, hB7, _⟩
  have HI7 := Aside0.mk hI
  have HB7 := Aside0.mk hB7
  clear hI hB7 HB6 HI
  go_wp2_with (go_at_call 21; refine (codec_Reader_Text.calls 12 g _ _ ⟨#[97, 98]⟩ ⟨#[]⟩ 0 w _ HI7.out HB7.out rText_awake).mono ?_)
  rintro e w8 ⟨rfl, hI, hB8, _⟩
  have HI8 := Aside0.mk hI
  have HB8 := Aside0.mk hB8
  clear hI hB8 HB7 HI7
  go_wp2_with (go_at_call 22; refine (codec_Reader_Done.calls g _ _ 0 ⟨#[]⟩ 0 w _ HI8.out HB8.out rDone_awake).mono ?_)
  rintro e w9 ⟨rfl, hI, hB9, _⟩
  have HB9 := Aside0.mk hB9
  clear hI hB9 HB8 HI8
  go_wp2
  go_ret
  exact ⟨rfl, HB9.out⟩

/-! As the print has its functions. -/
def atriumlaw02_awake.f : Option Bool := some true
theorem atriumlaw02_awake.calls (r : Bool) (w : World) (h : atriumlaw02_awake.f = some r) :
    Calls Tryd.prog 6 #[] w fun e w' => e = .returned (.bool r) ∧ Below w.heap.size w w' := by
  obtain rfl := Option.some.inj h
  exact awake_any w
end Go.Proofs.YtjlohahknngmmaaDoor
