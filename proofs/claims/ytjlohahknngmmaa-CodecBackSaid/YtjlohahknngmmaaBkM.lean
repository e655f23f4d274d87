/- Plain: what is written is read back, step by step. -/
import Derived.Test.YtjlohahknngmmaaStM
import Derived.Test.YtjlohahknngmmaaWrM
import Derived.Test.YtjlohahknngmmaaWCodecWrites
namespace Go.Proofs.Ytjlohahknngmmaa
open Go Go.RowKit Go.Proofs.YtjlohahknngmmaaW.PrintWords Go.Proofs.YtjlohahknngmmaaW.PrintLast Go.Proofs.Ytjlohahknngmmaa.PureC Go.Proofs.Ytjlohahknngmmaa.PureQ
open Go.Proofs.Ytjlohahknngmmaa.PureD hiding beN IsBytes bytesOf_are
open Go.Proofs.Ytjlohahknngmmaa.PE (S41)
set_option linter.unusedVariables false

theorem str_size (l : List Int) : (strOfNums l).size = l.length := strOfNums_size l
theorem str_ext0 (a b : List Int) : (strOfNums (a ++ b)).extract 0 a.length = strOfNums a := by
  apply data_inj
  rw [ext_mid (strOfNums (a ++ b)) [] (u8s a) (u8s b) 0 a.length (by rw [u8s_str, u8s_append]; rfl) rfl (by rw [u8s_length]; omega)]
  rfl
theorem str_ext1 (a b : List Int) : (strOfNums (a ++ b)).extract a.length (strOfNums (a ++ b)).size = strOfNums b := by
  apply data_inj
  rw [ext_mid (strOfNums (a ++ b)) (u8s a) (u8s b) [] a.length (strOfNums (a ++ b)).size (by rw [u8s_str, u8s_append, List.append_nil]) (u8s_length a) (by rw [u8s_length, str_size, List.length_append])]
  rfl
theorem rawP_app (a b : List Int) (n : Int) (hn : n = a.length) : rawP (strOfNums (a ++ b)) 0 n = (strOfNums a, strOfNums b, 0) := by
  subst hn
  unfold rawP
  have hl : (strOfNums (a ++ b)).size = a.length + b.length := by rw [str_size, List.length_append]
  rw [if_pos rfl, if_neg (by omega), if_neg (by rw [hl]; omega), Int.toNat_natCast, str_ext0, str_ext1]
theorem be_back (n : Int) (k : Nat) : beN (nb n k) = n % 256 ^ k := by
  rw [← nb_mod]
  have hp : (0 : Int) < 256 ^ k := Int.pow_pos (by decide)
  exact be_nb k _ (Int.emod_nonneg _ (by omega)) (Int.emod_lt_of_pos _ hp)
theorem num_back (n : Int) (k : Nat) (b : List Int) : rawP (strOfNums (nb n k ++ b)) 0 k = (strOfNums (nb n k), strOfNums b, 0) := rawP_app _ _ _ (by rw [nb_length])
theorem vb_isBytes (n : Int) (h0 : 0 ≤ n) : IsBytes (vb 9 n) := vb_bytes 9 n h0
theorem var_back (n : Int) (h0 : 0 ≤ n) (h1 : n < 18446744073709551616) (b : List Int) (hb : IsBytes b) : varP (strOfNums (vb 9 n ++ b)) 0 = (n, strOfNums b, 0) := by
  have h := rv_vb 9 n [] b rfl h0 (by rw [show (128 : Int) ^ ([] : List Int).length = 1 from rfl]; omega) (fun h => absurd h (by decide))
  have hB : bytesOf (strOfNums (vb 9 n ++ b)) = vb 9 n ++ b := bytes_back _ (fun c hc => by
    rcases List.mem_append.1 hc with h | h
    · exact vb_isBytes n h0 c h
    · exact hb c h)
  unfold varP
  rw [if_pos rfl, hB, h]
  have e : ((([] : List Int).length : Int) + ((vb 9 n).length : Int)).toNat = (vb 9 n).length := by simp
  dsimp only
  rw [if_pos rfl, e, str_ext1]
  simp [lv]
theorem text_back (s : ByteArray) (hs : s.size ≤ 281474976710656) (b : List Int) (hb : IsBytes b) : textP (strOfNums (vb 9 (s.size : Int) ++ bytesOf s ++ b)) 0 = (s, strOfNums b, 0) := by
  have hb2 : IsBytes (bytesOf s ++ b) := fun c hc => by
    rcases List.mem_append.1 hc with h | h
    · exact bytesOf_are s c h
    · exact hb c h
  have h := var_back (s.size : Int) (by omega) (by omega) (bytesOf s ++ b) hb2
  unfold textP
  rw [List.append_assoc, h]
  dsimp only
  have hl : (strOfNums (bytesOf s ++ b)).size = s.size + b.length := by rw [str_size, List.length_append, bytesOf_length]
  rw [if_pos rfl, if_neg (by rw [hl]; omega), rawP_app _ _ _ (by rw [bytesOf_length]), str_back]
theorem raw_back (s : ByteArray) (b : List Int) : rawP (strOfNums (bytesOf s ++ b)) 0 (s.size : Int) = (s, strOfNums b, 0) := by
  rw [rawP_app _ _ _ (by rw [bytesOf_length]), str_back]

/-- All that some steps put. -/
def flat (ops : List S41) : List Int := ops.flatMap fun o => opBytes o.f0 o.f1 o.f2
theorem opBytes_are (kind n : Int) (t : ByteArray) (h0 : 0 ≤ n) : IsBytes (opBytes kind n t) := by
  unfold opBytes
  split
  · exact nb_bytes _ _
  · split
    · exact nb_bytes _ _
    · split
      · exact nb_bytes _ _
      · split
        · exact nb_bytes _ _
        · split
          · exact vb_isBytes n h0
          · split
            · intro c hc
              rcases List.mem_append.1 hc with h | h
              · exact vb_isBytes _ (by omega) c h
              · exact bytesOf_are t c h
            · split
              · exact bytesOf_are t
              · intro c hc; cases hc
theorem flat_are (ops : List S41) (h : ∀ o ∈ ops, 0 ≤ o.f1) : IsBytes (flat ops) := by
  intro c hc
  obtain ⟨o, ho, hc⟩ := List.mem_flatMap.1 hc
  exact opBytes_are _ _ _ (h o ho) c hc
theorem flat_take (ops : List S41) (k : Nat) (h : k < ops.length) : flat (ops.take (k + 1)) = flat (ops.take k) ++ opBytes ops[k].f0 ops[k].f1 ops[k].f2 := by
  unfold flat
  rw [List.take_succ_eq_append_getElem h, List.flatMap_append]
  simp
theorem flat_drop (ops : List S41) (k : Nat) (h : k < ops.length) : flat (ops.drop k) = opBytes ops[k].f0 ops[k].f1 ops[k].f2 ++ flat (ops.drop (k + 1)) := by
  unfold flat
  rw [List.drop_eq_getElem_cons h, List.flatMap_cons]
end Go.Proofs.Ytjlohahknngmmaa
/- Walk: the law CodecBack. Printed by cdback.py. -/
namespace Go.Proofs.Ytjlohahknngmmaa
open Go Go.RowKit Go.Proofs.YtjlohahknngmmaaW.PrintWords Go.Proofs.YtjlohahknngmmaaW.PrintMore Go.Proofs.YtjlohahknngmmaaW.PrintLast Go.Proofs.Ytjlohahknngmmaa.PC Go.Proofs.Ytjlohahknngmmaa.PureC Go.Proofs.Ytjlohahknngmmaa.PureQ
open Go.Proofs.Ytjlohahknngmmaa.PureD hiding beN IsBytes bytesOf_are
open Go.Proofs.Ytjlohahknngmmaa.PE (S41 k41 rd_T41 at_T41)
set_option linter.unusedVariables false
set_option linter.unusedSimpArgs false
attribute [local go_sem ↓] Go.wp_at_zero Go.wp_at_succ

/-- A Reader beside a block that stays. -/
def RB (w0 : World) (g gc : Nat) (cs : Array Value) (s : ByteArray) (w : World) : Prop :=
  IsS72 w0 w g s 0 ∧ w.heap[gc]? = some (.cells cs 41 (0, 0)) ∧ Below w0.heap.size w0 w
theorem RB.drew {w0 : World} {g gc : Nat} {cs : Array Value} {s : ByteArray} {w : World} (h : RB w0 g gc cs s w) : RB w0 g gc cs s w.drew := ⟨h.1.drew, h.2.1, below_drew1 h.2.2⟩
theorem RB.drewN {w0 : World} {g gc : Nat} {cs : Array Value} {s : ByteArray} {w : World} (h : RB w0 g gc cs s w) (n : Nat) : RB w0 g gc cs s (w.drewN n) := ⟨h.1.drewN n, h.2.1, pw_below_drewN h.2.2 n⟩
theorem RB.cell {w0 : World} {g gc : Nat} {cs : Array Value} {s : ByteArray} {w : World} (h : RB w0 g gc cs s w) (i : Nat) {v : Value} (hv : cs[i]? = some v) : w.cell? ⟨gc, i, none⟩ = some v := (blk_cell h.2.1 i).trans hv
theorem RB.next {w0 : World} {g gc : Nat} {cs : Array Value} {s : ByteArray} {w : World} (h : RB w0 g gc cs s w) {w1 : World} {s' : ByteArray} (h1 : IsS72 w0 w1 g s' 0) (hk : KeepBut w w1 g none) (hb : Below w0.heap.size w0 w1) : RB w0 g gc cs s' w1 :=
  ⟨h1, hk.blk h.2.1 (fun h9 => (IsS72.ne_blk h.1 h.2.1 (by decide)) h9.symm) (by simp), hb⟩
theorem u8_rb (w0 : World) (g gc : Nat) (cs : Array Value) (n : Int) (rest : List Int) (w : World) (h : RB w0 g gc cs (strOfNums (nb n 1 ++ rest)) w) :
    Calls Try.prog 23 #[.pointer (some ⟨g, 0, none⟩)] w fun x w' => x = .returned (.int .u8 (n % 256)) ∧ RB w0 g gc cs (strOfNums rest) w' := by
  have e := u8_eq (strOfNums (nb n 1 ++ rest)) 0
  rw [show rawP (strOfNums (nb n 1 ++ rest)) 0 1 = _ from num_back n 1 rest] at e
  dsimp only at e
  rw [bytes_back _ (nb_bytes n 1), be_back, show (256 : Int) ^ 1 = 256 from rfl] at e
  refine (codec_Reader_U8.calls g _ 0 _ _ _ w0 w h.1 h.2.2 e).mono ?_
  rintro x w1 ⟨rfl, hI, hB, hK⟩
  exact ⟨rfl, h.next hI hK hB⟩
theorem u16_rb (w0 : World) (g gc : Nat) (cs : Array Value) (n : Int) (rest : List Int) (w : World) (h : RB w0 g gc cs (strOfNums (nb n 2 ++ rest)) w) :
    Calls Try.prog 24 #[.pointer (some ⟨g, 0, none⟩)] w fun x w' => x = .returned (.int .u16 (n % 65536)) ∧ RB w0 g gc cs (strOfNums rest) w' := by
  have e := u16_eq (strOfNums (nb n 2 ++ rest)) 0
  rw [show rawP (strOfNums (nb n 2 ++ rest)) 0 2 = _ from num_back n 2 rest] at e
  dsimp only at e
  rw [bytes_back _ (nb_bytes n 2), be_back, show (256 : Int) ^ 2 = 65536 from rfl] at e
  refine (codec_Reader_U16.calls g _ 0 _ _ _ w0 w h.1 h.2.2 e).mono ?_
  rintro x w1 ⟨rfl, hI, hB, hK⟩
  exact ⟨rfl, h.next hI hK hB⟩
theorem u32_rb (w0 : World) (g gc : Nat) (cs : Array Value) (n : Int) (rest : List Int) (w : World) (h : RB w0 g gc cs (strOfNums (nb n 4 ++ rest)) w) :
    Calls Try.prog 25 #[.pointer (some ⟨g, 0, none⟩)] w fun x w' => x = .returned (.int .u32 (n % 4294967296)) ∧ RB w0 g gc cs (strOfNums rest) w' := by
  have e := u32_eq (strOfNums (nb n 4 ++ rest)) 0
  rw [show rawP (strOfNums (nb n 4 ++ rest)) 0 4 = _ from num_back n 4 rest] at e
  dsimp only at e
  rw [bytes_back _ (nb_bytes n 4), be_back, show (256 : Int) ^ 4 = 4294967296 from rfl] at e
  refine (codec_Reader_U32.calls g _ 0 _ _ _ w0 w h.1 h.2.2 e).mono ?_
  rintro x w1 ⟨rfl, hI, hB, hK⟩
  exact ⟨rfl, h.next hI hK hB⟩
theorem u64_rb (w0 : World) (g gc : Nat) (cs : Array Value) (n : Int) (rest : List Int) (w : World) (h : RB w0 g gc cs (strOfNums (nb n 8 ++ rest)) w) :
    Calls Try.prog 26 #[.pointer (some ⟨g, 0, none⟩)] w fun x w' => x = .returned (.int .u64 (n % 18446744073709551616)) ∧ RB w0 g gc cs (strOfNums rest) w' := by
  have e := u64_eq (strOfNums (nb n 8 ++ rest)) 0
  rw [show rawP (strOfNums (nb n 8 ++ rest)) 0 8 = _ from num_back n 8 rest] at e
  dsimp only at e
  rw [bytes_back _ (nb_bytes n 8), be_back, show (256 : Int) ^ 8 = 18446744073709551616 from rfl] at e
  refine (codec_Reader_U64.calls g _ 0 _ _ _ w0 w h.1 h.2.2 e).mono ?_
  rintro x w1 ⟨rfl, hI, hB, hK⟩
  exact ⟨rfl, h.next hI hK hB⟩
theorem varint_rb (w0 : World) (g gc : Nat) (cs : Array Value) (n : Int) (h0 : 0 ≤ n) (h1 : n < 18446744073709551616) (rest : List Int) (hr : IsBytes rest) (hl : rest.length ≤ 2147483648) (w : World) (h : RB w0 g gc cs (strOfNums (vb 9 n ++ rest)) w) :
    Calls Try.prog 16 #[.pointer (some ⟨g, 0, none⟩)] w fun x w' => x = .returned (.int .u64 n) ∧ RB w0 g gc cs (strOfNums rest) w' := by
  have hv := vb_len 9 n
  obtain ⟨k, hk⟩ := (varint_ev (strOfNums (vb 9 n ++ rest)) 0 (by rw [str_size, List.length_append]; omega)).rounds
  rw [var_back n h0 h1 rest hr] at hk
  refine (codec_Reader_Varint.calls k g _ 0 _ _ _ w0 w h.1 h.2.2 hk).mono ?_
  rintro x w1 ⟨rfl, hI, hB, hK⟩
  exact ⟨rfl, h.next hI hK hB⟩
theorem text_rb (w0 : World) (g gc : Nat) (cs : Array Value) (s : ByteArray) (hs : s.size ≤ 140737488351232) (rest : List Int) (hr : IsBytes rest) (hl : rest.length ≤ 2147483648) (w : World) (h : RB w0 g gc cs (strOfNums (vb 9 (s.size : Int) ++ bytesOf s ++ rest)) w) :
    Calls Try.prog 27 #[.pointer (some ⟨g, 0, none⟩)] w fun x w' => x = .returned (.string s) ∧ RB w0 g gc cs (strOfNums rest) w' := by
  have hv := vb_len 9 (s.size : Int)
  obtain ⟨k, hk⟩ := (text_ev (strOfNums (vb 9 (s.size : Int) ++ bytesOf s ++ rest)) 0 (by rw [str_size, List.length_append, List.length_append, bytesOf_length]; omega)).rounds
  rw [text_back s (by omega) rest hr] at hk
  refine (codec_Reader_Text.calls k g _ 0 _ _ _ w0 w h.1 h.2.2 hk).mono ?_
  rintro x w1 ⟨rfl, hI, hB, hK⟩
  exact ⟨rfl, h.next hI hK hB⟩
theorem raw_rb (w0 : World) (g gc : Nat) (cs : Array Value) (s : ByteArray) (rest : List Int) (w : World) (h : RB w0 g gc cs (strOfNums (bytesOf s ++ rest)) w) :
    Calls Try.prog 28 #[.pointer (some ⟨g, 0, none⟩), .int .i64 (s.size : Int)] w fun x w' => x = .returned (.string s) ∧ RB w0 g gc cs (strOfNums rest) w' := by
  have e := raw_eq (strOfNums (bytesOf s ++ rest)) 0 (s.size : Int)
  rw [raw_back] at e
  refine (codec_Reader_Raw.calls g _ 0 _ _ _ _ w0 w h.1 h.2.2 e).mono ?_
  rintro x w1 ⟨rfl, hI, hB, hK⟩
  exact ⟨rfl, h.next hI hK hB⟩
theorem rd_get (ops : List S41) (k : Nat) (h : k < ops.length) : rd_T41 ops (k : Int) = ops[k] := by
  unfold rd_T41
  rw [Int.toNat_natCast, List.getD_eq_getElem?_getD, List.getElem?_eq_getElem h]; rfl

set_option maxHeartbeats 4000000 in
set_option maxRecDepth 100000 in
theorem back_any (A : Option Addr) (c : Nat) (ops : List S41) (w : World) (hC : Kd.C k41 w A ops.length ops) (hn : ∀ o ∈ ops, (0 ≤ o.f1 ∧ o.f1 ≤ 18446744073709551615) ∧ o.f2.size ≤ 140737488351232) :
    Calls Try.prog 6 #[.slice A ops.length c] w fun e w' => e = .returned (.bool true) ∧ Below w.heap.size w w' := by
  have hu := Try.underlying41
  have hup := Try.underlying24
  have hup2 := Try.underlying30
  have hlen : ops.length ≤ 9223372036854775807 := by have := hC.2.1; unfold maxLen at this; omega
  have HN := Aside0.mk hn
  have HC := Aside0.mk hC
  have HP := Aside0.mk (show ∀ k, IsBytes (flat (ops.drop k)) from fun k => flat_are _ fun o ho => (hn o (List.mem_of_mem_drop ho)).1.1)
  clear hn hC
  go_enter Try.func6, Try.ntmps6
  go_wp2_with (go_at_call 12; refine (newWriter_any 1073741824 w.heap.size _ (Nat.le_refl _)).mono ?_)
  rintro e w1 ⟨b, rfl, hW, hB, _⟩
  have HW1 : Aside0 (WS w b 1073741824 false ⟨#[]⟩ 0 w1) := ⟨⟨_, [], hW, hB, rfl, (fun _ => by decide), Nat.le_refl _⟩⟩
  clear hW hB
  go_wp2_with (go_at_call 11; refine (awake_any _).mono ?_)
  rintro e w2 ⟨rfl, hb⟩
  have HW2 := Aside0.mk (HW1.out.below hb)
  clear hb HW1
  go_wp2
  go_loopw [4, 22] (fun z i wr => ∃ k : Nat, k ≤ ops.length ∧ i = .int .i64 k ∧ z = .int .i64 (szs (ops.take k) : Nat) ∧ ((szs (ops.take k) : Nat) : Int) ≤ 1073741824 ∧ WS w b 1073741824 false (strOfNums (flat (ops.take k))) (szs (ops.take k)) wr) (fun _ i _ => ops.length - (intOf i).toNat)
  case atStart => exact ⟨0, Nat.zero_le _, rfl, rfl, by simp [szs], HW2.out⟩
  case round =>
    obtain ⟨k, hk, rfl, rfl, hz, hWS⟩ := hrel
    by_cases hlt : k < ops.length
    · obtain ⟨ad, rfl, c0, c1, c2⟩ := at_T41 (Kd.C_below HC.out hWS.bel) (k : Int) (by omega) (by omega)
      obtain ⟨⟨n0, n1⟩, ts⟩ := HN.out _ (rd_mem ops k hlt)
      have hst := szs_take ops k hlt
      have hft := flat_take ops k hlt
      rw [← rd_get ops k hlt] at hft
      generalize rd_T41 ops (k : Int) = o at *
      obtain ⟨kind, n, t⟩ := o
      dsimp only at n0 n1 c0 c1 c2 hst ts hft
      rw [Int.toNat_natCast] at c0 c1 c2
      have htb := opText_le kind n t
      have HX : Aside0 (((szs (ops.take k) : Nat) : Int) + ((t.size : Int) + 10) ≤ 1073741824 → nx 1073741824 false (strOfNums (flat (ops.take k))) (opText kind n t) = (false, strOfNums (flat (ops.take (k + 1))))) := ⟨fun h => by
        have hf := hWS.facts.1
        unfold nx
        rw [if_neg (by decide), if_neg (by omega), hft, str_append]; rfl⟩
      have HST := Aside0.mk hst
      have HTB := Aside0.mk htb
      have HWS := Aside0.mk hWS
      clear hst htb hWS hft
      generalize hzs : szs (ops.take k) = zs at *
      have HZS := Aside0.mk hzs
      clear hzs
      have HH := Aside0.mk (HWS.out.with #[.int .i64 kind, .int .u64 n, .string t])
      have hzb : (zs : Int) ≤ 4000000000 := by omega
      have HZ := Aside0.mk hz
      clear hz
      by_cases hfit : (zs : Int) + ((t.size : Int) + 10) ≤ 1073741824
      · have HFit := Aside0.mk hfit
        have hd : decide ((1073741824 : Int) < (zs : Int) + ((t.size : Int) + 10)) = false := decide_eq_false (by omega)
        clear hfit
        go_wp2_with (go_at_call 20; refine (write_ws w b 1073741824 false _ _ _ _ _ kind n t n0 (by omega) ts (by omega) (by omega) (by have := HTB.out; have := HFit.out; omega) HH.out).mono ?_)
        intro e w3
        first | (intro he hR; subst he) | rintro ⟨rfl, hR⟩
        have HW3 : Aside0 (WS w b 1073741824 false (strOfNums (flat (ops.take (k + 1)))) (szs (ops.take (k + 1))) w3) := ⟨by
          rw [HX.out HFit.out] at hR
          obtain ⟨v, l, h1, h2, h3, h4, h5, _⟩ := hR
          exact ⟨v, l, h1, h2, h3, h4, by have := HTB.out; have := HST.out; omega⟩⟩
        clear hR
        go_wp2
        go_roundw
        case rel => exact ⟨k + 1, by omega, by go_num, by rw [HST.out]; go_num, by have := HFit.out; rw [HST.out]; omega, HW3.out⟩
        case measure => simp [intOf]; omega
      · have hd : decide ((1073741824 : Int) < (zs : Int) + ((t.size : Int) + 10)) = true := decide_eq_true (by omega)
        clear hfit
        go_wp2
        go_ret
        exact ⟨rfl, below_alloc HWS.out.bel _⟩
    · obtain rfl : k = ops.length := by omega
      rw [List.take_length] at hWS hz
      have hlf := hWS.facts.1
      rw [str_size] at hlf
      have hfl : (flat ops).length ≤ 1073741824 := by omega
      have HWS := Aside0.mk hWS
      clear hWS hz hlf
      have HFL : Aside0 (∀ k, (flat (ops.drop k)).length ≤ 2147483648) := ⟨fun k => by
        have h : (flat ops).length = (flat (ops.take k)).length + (flat (ops.drop k)).length := by
          unfold flat
          rw [← List.length_append, ← List.flatMap_append, List.take_append_drop]
        omega⟩
      clear hfl
      go_wp2_with (go_at_call 14; refine (wdone_ws 0 w b 1073741824 false (strOfNums (flat ops)) _ _ HWS.out rfl).mono ?_)
      intro e w3
      first | (intro he hR; subst he) | rintro ⟨rfl, hR⟩
      have HB3 := Aside0.mk hR.bel
      clear hR HWS
      go_wp2_with (go_at_call 15; refine (codec_NewReader.calls (strOfNums (flat ops)) (strOfNums (flat ops)) 0 w _ HB3.out rfl).mono ?_)
      rintro e w4 ⟨g1, rfl, hI, hB, _⟩
      have HI4 := Aside0.mk hI
      have HB4 := Aside0.mk hB
      clear hI hB HB3
      go_wp2
      go_loopw [53] (fun i wr => ∃ k : Nat, k ≤ ops.length ∧ i = .int .i64 k ∧ IsS72 w wr g1 (strOfNums (flat (ops.drop k))) 0 ∧ Below w.heap.size w wr) (fun i _ => ops.length - (intOf i).toNat)
      case atStart => exact ⟨0, Nat.zero_le _, rfl, HI4.out, HB4.out⟩
      case round =>
        obtain ⟨k, hk, rfl, hI, hB⟩ := hrel
        by_cases hlt : k < ops.length
        · obtain ⟨ad, rfl, c0, c1, c2⟩ := at_T41 (Kd.C_below HC.out hB) (k : Int) (by omega) (by omega)
          obtain ⟨⟨n0, n1⟩, ts⟩ := HN.out _ (rd_mem ops k hlt)
          have hfd := flat_drop ops k hlt
          rw [← rd_get ops k hlt] at hfd
          have hp := HP.out (k + 1)
          have hl := HFL.out (k + 1)
          generalize hfr : flat (ops.drop (k + 1)) = fr at *
          have HFR := Aside0.mk hfr
          generalize rd_T41 ops (k : Int) = o at *
          obtain ⟨kind, n, t⟩ := o
          dsimp only at n0 n1 c0 c1 c2 ts hfd
          rw [Int.toNat_natCast] at c0 c1 c2
          rw [hfd] at hI
          have HRB := Aside0.mk (show RB w g1 wr.heap.size #[.int .i64 kind, .int .u64 n, .string t] (strOfNums (opBytes kind n t ++ fr)) (wr.alloc (.cells #[.int .i64 kind, .int .u64 n, .string t] 41)) from ⟨hI.alloc _, blk_new wr _, below_alloc hB _⟩)
          have HP2 := Aside0.mk hp
          have HL2 := Aside0.mk hl
          clear hI hB hfd hp hl hfr
          by_cases hkk : kind < 0 ∨ 6 < kind
          · have k0 : (kind == 0) = false := beq_eq_false_iff_ne.mpr (by omega)
            have k1 : (kind == 1) = false := beq_eq_false_iff_ne.mpr (by omega)
            have k2 : (kind == 2) = false := beq_eq_false_iff_ne.mpr (by omega)
            have k3 : (kind == 3) = false := beq_eq_false_iff_ne.mpr (by omega)
            have k4 : (kind == 4) = false := beq_eq_false_iff_ne.mpr (by omega)
            have k5 : (kind == 5) = false := beq_eq_false_iff_ne.mpr (by omega)
            have k6 : (kind == 6) = false := beq_eq_false_iff_ne.mpr (by omega)
            have HE : Aside0 (opBytes kind n t = []) := ⟨by unfold opBytes; rw [if_neg (by omega), if_neg (by omega), if_neg (by omega), if_neg (by omega), if_neg (by omega), if_neg (by omega), if_neg (by omega)]⟩
            clear hkk
            go_wp2
            go_roundw
            case rel => exact ⟨k + 1, by omega, by go_num, by rw [HFR.out]; have h := HRB.out.1; rw [HE.out] at h; exact h, HRB.out.2.2⟩
            case measure => simp [intOf]; omega
          · have hc : kind = 0 ∨ kind = 1 ∨ kind = 2 ∨ kind = 3 ∨ kind = 4 ∨ kind = 5 ∨ kind = 6 := by omega
            clear hkk
            have h16 : IntKind.u16.wrap n = n % 65536 := rfl
            have h8 : IntKind.u8.wrap n = n % 256 := rfl
            have h32 : IntKind.u32.wrap n = n % 4294967296 := rfl
            rcases hc with rfl | rfl | rfl | rfl | rfl | rfl | rfl
            · have HS0 : Aside0 (RB w g1 wr.heap.size #[.int .i64 0, .int .u64 n, .string t] (strOfNums (nb n 1 ++ fr)) (wr.alloc (.cells #[.int .i64 0, .int .u64 n, .string t] 41)).drew) := ⟨by
                have h := HRB.out.drew
                rw [show opBytes 0 n t = nb (n % 256) 1 from rfl, show nb (n % 256) 1 = nb n 1 from nb_mod 1 n] at h
                exact h⟩
              have hc0 := HS0.out.cell 1 rfl
              skip
              go_upto_region 23 with fail
              go_region_held3 (fun w' => w'.cell? ⟨wr.heap.size, 1, none⟩ = some (.int .u64 n)) (first | exact hc1 | exact hc0 | go_keep) (first
                | (go_at_call 23; refine (u8_rb w g1 wr.heap.size _ n fr _ HS0.out).mono ?_; rintro e1 w5 ⟨rfl, hR⟩; have HS1 := Aside0.mk hR; have hc1 := hR.cell 1 rfl; clear hR))
              go_wp2
              go_roundw
              case rel => exact ⟨k + 1, by omega, by go_num, by rw [HFR.out]; exact HS1.out.1, HS1.out.2.2⟩
              case measure => simp [intOf]; omega
            · have HS0 : Aside0 (RB w g1 wr.heap.size #[.int .i64 1, .int .u64 n, .string t] (strOfNums (nb n 2 ++ fr)) (wr.alloc (.cells #[.int .i64 1, .int .u64 n, .string t] 41)).drew) := ⟨by
                have h := HRB.out.drew
                rw [show opBytes 1 n t = nb (n % 65536) 2 from rfl, show nb (n % 65536) 2 = nb n 2 from nb_mod 2 n] at h
                exact h⟩
              have hc0 := HS0.out.cell 1 rfl
              skip
              go_upto_region 25 with fail
              go_region_held3 (fun w' => w'.cell? ⟨wr.heap.size, 1, none⟩ = some (.int .u64 n)) (first | exact hc1 | exact hc0 | go_keep) (first
                | (go_at_call 24; refine (u16_rb w g1 wr.heap.size _ n fr _ HS0.out).mono ?_; rintro e1 w5 ⟨rfl, hR⟩; have HS1 := Aside0.mk hR; have hc1 := hR.cell 1 rfl; clear hR))
              go_wp2
              go_roundw
              case rel => exact ⟨k + 1, by omega, by go_num, by rw [HFR.out]; exact HS1.out.1, HS1.out.2.2⟩
              case measure => simp [intOf]; omega
            · have HS0 : Aside0 (RB w g1 wr.heap.size #[.int .i64 2, .int .u64 n, .string t] (strOfNums (nb n 4 ++ fr)) (wr.alloc (.cells #[.int .i64 2, .int .u64 n, .string t] 41)).drew) := ⟨by
                have h := HRB.out.drew
                rw [show opBytes 2 n t = nb (n % 4294967296) 4 from rfl, show nb (n % 4294967296) 4 = nb n 4 from nb_mod 4 n] at h
                exact h⟩
              have hc0 := HS0.out.cell 1 rfl
              skip
              go_upto_region 27 with fail
              go_region_held3 (fun w' => w'.cell? ⟨wr.heap.size, 1, none⟩ = some (.int .u64 n)) (first | exact hc1 | exact hc0 | go_keep) (first
                | (go_at_call 25; refine (u32_rb w g1 wr.heap.size _ n fr _ HS0.out).mono ?_; rintro e1 w5 ⟨rfl, hR⟩; have HS1 := Aside0.mk hR; have hc1 := hR.cell 1 rfl; clear hR))
              go_wp2
              go_roundw
              case rel => exact ⟨k + 1, by omega, by go_num, by rw [HFR.out]; exact HS1.out.1, HS1.out.2.2⟩
              case measure => simp [intOf]; omega
            · have HS0 : Aside0 (RB w g1 wr.heap.size #[.int .i64 3, .int .u64 n, .string t] (strOfNums (nb n 8 ++ fr)) (wr.alloc (.cells #[.int .i64 3, .int .u64 n, .string t] 41)).drew) := ⟨by
                have h := HRB.out.drew
                rw [show opBytes 3 n t = nb n 8 from rfl] at h
                exact h⟩
              have hc0 := HS0.out.cell 1 rfl
              have hmod : n % 18446744073709551616 = n := by omega
              go_upto_region 29 with fail
              go_region_held3 (fun w' => w'.cell? ⟨wr.heap.size, 1, none⟩ = some (.int .u64 n)) (first | exact hc1 | exact hc0 | go_keep) (first
                | (go_at_call 26; refine (u64_rb w g1 wr.heap.size _ n fr _ HS0.out).mono ?_; rintro e1 w5 ⟨rfl, hR⟩; have HS1 := Aside0.mk hR; have hc1 := hR.cell 1 rfl; clear hR))
              go_wp2
              go_roundw
              case rel => exact ⟨k + 1, by omega, by go_num, by rw [HFR.out]; exact HS1.out.1, HS1.out.2.2⟩
              case measure => simp [intOf]; omega
            · have HS0 : Aside0 (RB w g1 wr.heap.size #[.int .i64 4, .int .u64 n, .string t] (strOfNums (vb 9 n ++ fr)) (wr.alloc (.cells #[.int .i64 4, .int .u64 n, .string t] 41)).drew) := ⟨by
                have h := HRB.out.drew
                rw [show opBytes 4 n t = vb 9 n from rfl] at h
                exact h⟩
              have hc0 := HS0.out.cell 1 rfl
              skip
              go_upto_region 31 with fail
              go_region_held3 (fun w' => w'.cell? ⟨wr.heap.size, 1, none⟩ = some (.int .u64 n)) (first | exact hc1 | exact hc0 | go_keep) (first
                | (go_at_call 16; refine (varint_rb w g1 wr.heap.size _ n n0 (by omega) fr HP2.out HL2.out _ HS0.out).mono ?_; rintro e1 w5 ⟨rfl, hR⟩; have HS1 := Aside0.mk hR; have hc1 := hR.cell 1 rfl; clear hR))
              go_wp2
              go_roundw
              case rel => exact ⟨k + 1, by omega, by go_num, by rw [HFR.out]; exact HS1.out.1, HS1.out.2.2⟩
              case measure => simp [intOf]; omega
            · have HS0 : Aside0 (RB w g1 wr.heap.size #[.int .i64 5, .int .u64 n, .string t] (strOfNums (vb 9 (t.size : Int) ++ bytesOf t ++ fr)) (wr.alloc (.cells #[.int .i64 5, .int .u64 n, .string t] 41)).drew) := ⟨by
                have h := HRB.out.drew
                rw [show opBytes 5 n t = vb 9 (t.size : Int) ++ bytesOf t from rfl] at h
                exact h⟩
              have hc0 := HS0.out.cell 2 rfl
              skip
              go_upto_region 33 with fail
              go_region_held3 (fun w' => w'.cell? ⟨wr.heap.size, 2, none⟩ = some (.string t)) (first | exact hc1 | exact hc0 | go_keep) (first
                | (go_at_call 27; refine (text_rb w g1 wr.heap.size _ t ts fr HP2.out HL2.out _ HS0.out).mono ?_; rintro e1 w5 ⟨rfl, hR⟩; have HS1 := Aside0.mk hR; have hc1 := hR.cell 2 rfl; clear hR))
              go_wp2
              go_roundw
              case rel => exact ⟨k + 1, by omega, by go_num, by rw [HFR.out]; exact HS1.out.1, HS1.out.2.2⟩
              case measure => simp [intOf]; omega
            · have HS0 : Aside0 (RB w g1 wr.heap.size #[.int .i64 6, .int .u64 n, .string t] (strOfNums (bytesOf t ++ fr)) (wr.alloc (.cells #[.int .i64 6, .int .u64 n, .string t] 41)).drew) := ⟨by
                have h := HRB.out.drew
                rw [show opBytes 6 n t = bytesOf t from rfl] at h
                exact h⟩
              have hc0 := HS0.out.cell 2 rfl
              skip
              go_upto_region 35 with fail
              go_region_held3 (fun w' => w'.cell? ⟨wr.heap.size, 2, none⟩ = some (.string t)) (first | exact hc1 | exact hc0 | go_keep) (first
                | (go_at_call 28; refine (raw_rb w g1 wr.heap.size _ t fr _ HS0.out).mono ?_; rintro e1 w5 ⟨rfl, hR⟩; have HS1 := Aside0.mk hR; have hc1 := hR.cell 2 rfl; clear hR))
              go_wp2
              go_roundw
              case rel => exact ⟨k + 1, by omega, by go_num, by rw [HFR.out]; exact HS1.out.1, HS1.out.2.2⟩
              case measure => simp [intOf]; omega
        · obtain rfl : k = ops.length := by omega
          rw [List.drop_length] at hI
          have HI := Aside0.mk hI
          have HB := Aside0.mk hB
          have Hz := Aside0.mk (show strOfNums (flat []) = ⟨#[]⟩ from rfl)
          clear hI hB
          go_wp2_with (go_at_call 17; refine (codec_Reader_Left.calls g1 _ 0 0 _ 0 w _ HI.out HB.out rfl).mono ?_)
          intro e w5
          first | intro he hI hB hK | rintro ⟨he, hI, hB, hK⟩
          subst he
          have HI2 := Aside0.mk hI
          have HB2 := Aside0.mk hB
          clear hI hB hK
          go_wp2_with (go_at_call 29; refine (codec_Reader_Done.calls g1 _ 0 0 _ 0 w _ HI2.out HB2.out rfl).mono ?_)
          intro e w6
          first | intro he hI hB hK | rintro ⟨he, hI, hB, hK⟩
          subst he
          have HB3 := Aside0.mk hB
          clear hI hB hK
          go_wp2
          go_ret
          exact ⟨rfl, HB3.out⟩
end Go.Proofs.Ytjlohahknngmmaa
namespace Go.Proofs.Ytjlohahknngmmaa
open Go Go.Proofs.YtjlohahknngmmaaW.PrintWords
set_option linter.unusedVariables false in
theorem back_walk (A : Option Addr) (c : Nat) (ops : List PE.S41) (W : World) (hC : Kd.C PE.k41 W A ops.length ops) (hL : ops.length ≤ c) (ho : ops.length * 32 ≤ 140737488351232 ∧ ∀ x ∈ ops, (Lit.int .i64 x.f0).wf = true ∧ (Lit.int .u64 x.f1).wf = true ∧ x.f2.size ≤ 140737488351232) :
    Calls Try.prog 6 #[.slice A ops.length c] W fun e w' => e = .returned (.bool true) ∧ Go.RowKit.Below W.heap.size W w' := by
  refine back_any A c ops W hC (fun o ho' => ⟨?_, (ho.2 o ho').2.2⟩)
  simpa [Lit.wf, IntKind.min, IntKind.max, IntKind.signed, IntKind.bits] using (ho.2 o ho').2.1
end Go.Proofs.Ytjlohahknngmmaa
