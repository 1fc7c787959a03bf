/- A writer asked whatever; the statement BitwRoom. -/
import Derived.Test.YtlognooioemenaaLc
import Derived.Test.YtlognooioemenaaSk
namespace Go.Proofs.Ytlognooioemenaa
open Go.RowKit
set_option linter.unusedVariables false
set_option linter.unusedSimpArgs false

/-- What a call does to a writer: what it tells, and what stands behind it. -/
structure Does (w w' : World) (b : Nat) (v : Value) (N L N' L' most : Nat) (E : Int) : Prop where
  ex : ∃ v', Wr w' b v' (if E = 0 then N' else N) (if E = 0 then L' else L) most ∧ NewRow w v v' ∧ Fr (wfp b v) w w'

theorem wbits_all (b : Nat) (v : Value) (N L most n : Nat) (size : Int) (w : World) (hw : Wr w b v N L most) (hL : L ≤ 1000000000) (hm : most ≤ 9223372036854775807) (hn : n < 2 ^ 64) :
    Calls Try.prog 28 #[.pointer (some ⟨b, 0, none⟩), .int .u64 n, .int .i64 size] w fun e w' => e = .returned (.int .i64 (wbE L most n size)) ∧ Does w w' b v N L (N + n * 2 ^ L) (L + size.toNat) most (wbE L most n size) := by
  by_cases he : wbE L most n size = 0
  · have he' := he
    unfold wbE at he'
    split at he'
    · omega
    · rename_i h1
      split at he'
      · rename_i h2
        obtain ⟨k, rfl⟩ := Int.eq_ofNat_of_zero_le (show 0 ≤ size by omega)
        simp only [Int.toNat_natCast] at h1 h2
        refine (wbits_ok b v N L most n k w hw hL hm (by omega) (by omega) h2).mono ?_
        rintro e w' ⟨rfl, v', k1, k2, k3⟩
        exact ⟨by rw [he], ⟨v', by rw [if_pos he, if_pos he]; exact k1, k2, k3⟩⟩
      · omega
  · refine (wbits_err b v N L most n size w hw hL hm hn he).mono ?_
    rintro e w' ⟨rfl, f⟩
    exact ⟨rfl, ⟨v, by rw [if_neg he, if_neg he]; exact hw.to f (by simp), NewRow.refl _ _, f.nil⟩⟩
theorem wbytes_all (b : Nat) (v : Value) (N L most : Nat) (s : ByteArray) (w : World) (hw : Wr w b v N L most) (hL : L ≤ 100000000) (hs : s.size ≤ 10000000) (hm : most ≤ 9223372036854775807) :
    Calls Try.prog 31 #[.pointer (some ⟨b, 0, none⟩), .string s] w fun e w' => e = .returned (.int .i64 (wbytesE L most s)) ∧ Does w w' b v N L (N + num s * 2 ^ (L + pad L)) (L + pad L + 8 * s.size) most (wbytesE L most s) :=
  (wbytes_any b v N L most s w hw hL hs hm).mono fun e w' ⟨he, v', k1, k2, k3⟩ => ⟨he, ⟨v', by split at k1 <;> simp_all, k2, k3⟩⟩
theorem walign_all (b : Nat) (v : Value) (N L most : Nat) (w : World) (hw : Wr w b v N L most) (hL : L ≤ 900000000) (hm : most ≤ 9223372036854775807) :
    Calls Try.prog 32 #[.pointer (some ⟨b, 0, none⟩)] w fun e w' => e = .returned (.int .i64 0) ∧ Does w w' b v N L N (L + pad L) most 0 :=
  (walign_any b v N L most w hw hL hm).mono fun e w' ⟨he, v', k1, k2, k3⟩ => ⟨he, ⟨v', k1, k2, k3⟩⟩

theorem Two.doesA {W w w' : World} {A : Nat} {va : Value} {N L N' L' mA : Nat} {B : Nat} {vb : Value} {M K mB : Nat} {E : Int} (h : Two W w A va N L mA B vb M K mB) (d : Does w w' A va N L N' L' mA E) :
    ∃ va', Two W w' A va' (if E = 0 then N' else N) (if E = 0 then L' else L) mA B vb M K mB := let ⟨v', k1, k2, k3⟩ := d.ex; ⟨v', h.stepA k1 k2 k3⟩
theorem Two.doesB {W w w' : World} {A : Nat} {va : Value} {N L mA : Nat} {B : Nat} {vb : Value} {M K M' K' mB : Nat} {E : Int} (h : Two W w A va N L mA B vb M K mB) (d : Does w w' B vb M K M' K' mB E) :
    ∃ vb', Two W w' A va N L mA B vb' (if E = 0 then M' else M) (if E = 0 then K' else K) mB := let ⟨v', k1, k2, k3⟩ := d.ex; ⟨v', h.stepB k1 k2 k3⟩

/-- Two writers that are asked the same, the second one with room enough: what they tell. -/
def Same2 (EA EB : Int) (L' most : Nat) : Prop := (EA = 4 ∧ EB = 0 ∧ most < (L' + 7) / 8) ∨ (EA = EB ∧ EA ≠ 4)
theorem same_bits (L most n : Nat) (size : Int) (hL : L ≤ 400000) : Same2 (wbE L most n size) (wbE L 65536 n size) (L + size.toNat) most := by
  unfold Same2 wbE
  by_cases h : size < 0 ∨ 56 < size ∨ 2 ^ size.toNat ≤ n
  · rw [if_pos h, if_pos h]; exact .inr ⟨rfl, by decide⟩
  · rw [if_neg h, if_neg h]
    have h2 : roomB L size.toNat 65536 = true := by unfold roomB; apply decide_eq_true; omega
    rw [h2]
    cases hr : roomB L size.toNat most with
    | true => exact .inr ⟨rfl, by decide⟩
    | false => exact .inl ⟨rfl, rfl, by unfold roomB at hr; have := of_decide_eq_false hr; omega⟩
theorem same_bytes (L most : Nat) (s : ByteArray) (hL : L ≤ 400000) (hs : s.size ≤ 4096) : Same2 (wbytesE L most s) (wbytesE L 65536 s) (L + pad L + 8 * s.size) most := by
  unfold Same2 wbytesE
  rw [if_pos (show (L + 7) / 8 + s.size ≤ 65536 by omega)]
  by_cases h : (L + 7) / 8 + s.size ≤ most
  · rw [if_pos h]; exact .inr ⟨rfl, by decide⟩
  · rw [if_neg h]; exact .inl ⟨rfl, rfl, by unfold pad; omega⟩
theorem same_align (L most : Nat) : Same2 0 0 (L + pad L) most := .inr ⟨rfl, by decide⟩

theorem pad_lt (L : Nat) : pad L < 8 := by unfold pad; omega
theorem wtext_size (N L : Nat) : (wtext N L).size = (L + 7) / 8 := size_leb _ _
theorem bits_size (L most n : Nat) (size : Int) : (if wbE L most n size = 0 then L + size.toNat else L) ≤ L + 56 := by
  split
  · rename_i h; unfold wbE at h; split at h
    · omega
    · omega
  · omega

set_option maxRecDepth 100000 in
set_option maxHeartbeats 8000000 in
theorem bitwRoom_walk (w : World) (m0 : Int) (w0 : (Lit.int .u8 m0).wf = true) (a1 : Option Addr) (c1 : Nat) (x1 : List Call02) (l1 : x1.length ≤ maxLen) (s1 : SlOf Call02.enc Call02.sz w a1 x1) (o1 : ∀ x, x ∈ x1 → x.ok) :
    Calls Try.prog 6 #[.int .u8 m0, .slice a1 x1.length c1] w fun e w' => e = .returned (.bool true) ∧ Below w.heap.size w w' := by
  obtain ⟨b0, b1⟩ := bounds_u8 w0
  obtain ⟨most, rfl⟩ := Int.eq_ofNat_of_zero_le b0
  have S1 := Lib.hid s1
  have O1 := Lib.hid o1
  have L1 := Lib.hid l1
  clear s1 o1 w0 l1
  go_enter Try.func6, Try.ntmps6
  go_wp2_with fail
  refine (heavy02 w a1 c1 x1 L1.out S1.out O1.out).mono ?_
  rintro e wh ⟨r, rfl, hr, fh⟩
  cases r with
  | true =>
    clear hr
    go_wp2_with fail
    refine (alive02 wh).mono ?_
    rintro e w' ⟨rfl, hb⟩
    go_wp2_with fail
    go_ret
    exact ⟨rfl, (Fr.of_below (l := []) hb).out fh.below (by simp)⟩
  | false =>
    obtain ⟨ht, hn⟩ := hr rfl
    have HT := Lib.hid ht
    have i2 : (x1.length : Int) ≤ 300 := by omega
    clear hr ht
    go_wp2_with fail
    refine (wnew_any (most : Int) wh (by omega)).mono ?_
    rintro e wa ⟨rfl, h1, f1⟩
    go_wp2_with fail
    refine (wnew_any 65536 wa (by decide)).mono ?_
    rintro e wb ⟨rfl, h2, f2⟩
    have hT0 := Two.made f1 h1 f2 h2
    rw [Int.toNat_natCast] at hT0
    replace hT0 : Two wh wb wh.heap.size (.slice none 0 0) 0 0 most wa.heap.size (.slice none 0 0) 0 0 65536 := hT0
    have HT0 := Lib.hid hT0
    have hbW := hT0.below
    clear h1 h2 hT0
    go_wp2_with fail
    go_loopw [7] (fun i wr => ∃ (k N L : Nat) (va vb : Value), k ≤ x1.length ∧ i = .int .i64 k ∧ L ≤ 64 * k + 8 * total (x1.take k) ∧ Two wh wr wh.heap.size va N L most wa.heap.size vb N L 65536) (fun i _ => x1.length - (intOf i).toNat)
    case atStart => exact ⟨0, 0, 0, _, _, Nat.zero_le _, rfl, by simp, HT0.out⟩
    case round =>
      obtain ⟨k, N, L, va, vb, hk, rfl, hLk, hTw⟩ := hrel
      by_cases hlt : k < x1.length
      · obtain ⟨c, hc⟩ : ∃ c, x1[k]? = some c := ⟨x1[k], List.getElem?_eq_getElem hlt⟩
        obtain ⟨⟨o0, o0'⟩, ⟨o2, o3⟩, ⟨o4, o5⟩, o6⟩ := O1.out c (List.mem_of_getElem? hc)
        have hS := (S1.out.below fh.below).below hTw.below
        obtain ⟨b, o, rfl, hbl, hcell⟩ := hS (by intro h; rw [h] at hlt; simp at hlt)
        have k0 := hcell k c hc 0 (.int .u8 c.act) rfl
        have k1 := hcell k c hc 1 (.int .u64 c.n) rfl
        have k2 := hcell k c hc 2 (.int .i64 c.size) rfl
        have k3 := hcell k c hc 3 (.string c.s) rfl
        simp only [Call02.sz, Nat.add_zero] at k0 k1 k2 k3
        rw [← Nat.add_assoc] at k1 k2 k3
        have ht1 := total_take x1 k c hc
        have ht2 := total_le x1 (k + 1)
        have hTo := HT.out
        obtain ⟨n, hn'⟩ := Int.eq_ofNat_of_zero_le o2
        have hn64 : n < 2 ^ 64 := by omega
        rw [hn'] at k1
        have hL5 : L ≤ 60000 := by omega
        have hcs : c.s.size ≤ 4096 := by omega
        have HN := Lib.hid (And.intro ht1 (And.intro ht2 hLk))
        have HW := Lib.hid hTw
        clear hcell hc ht1 ht2 hTo hn' o2 o3 hS hLk hTw
        have hm8 : c.act % 8 < 5 ∨ c.act % 8 = 5 ∨ c.act % 8 = 6 ∨ c.act % 8 = 7 := by omega
        have hm0 : 0 ≤ c.act % 8 := by omega
        have hboxf : Fr [] wr (wr.alloc (.cells #[.int .u8 c.act, .int .u64 n, .int .i64 c.size, .string c.s] 45)) := Fr.alloc _ _ _
        have hT1 := HW.out.quiet hboxf
        have hbn := new_of wr (.cells #[.int .u8 c.act, .int .u64 n, .int .i64 c.size, .string c.s] 45)
        have hbox : ∀ {w3 : World} {X : Value → Prop}, (∃ v', X v' ∧ NewRow (wr.alloc (.cells #[.int .u8 c.act, .int .u64 n, .int .i64 c.size, .string c.s] 45)) va v' ∧ Fr (wfp wh.heap.size va) (wr.alloc (.cells #[.int .u8 c.act, .int .u64 n, .int .i64 c.size, .string c.s] 45)) w3) →
            w3.heap[wr.heap.size]? = some (.cells #[.int .u8 c.act, .int .u64 n, .int .i64 c.size, .string c.s] 45 (0, 0)) := fun ⟨_, _, _, f⟩ => f.blk hbn (fun hi => by have := HW.out.a.st.lt _ hi; omega)
        have HBOX := Lib.hid hbn
        clear hbn hboxf
        rcases hm8 with hm | hm | hm | hm
        · have hm' := hm
          clear hm
          go_wp2_with fail
          refine (wbits_all wh.heap.size va N L most n c.size _ hT1.a (by omega) (by omega) hn64).mono ?_
          rintro e w3 ⟨rfl, d3⟩
          obtain ⟨va2, hT2⟩ := hT1.doesA d3
          have c1' : w3.cell? ⟨wr.heap.size, 1, none⟩ = some (.int .u64 n) := cell_of (hbox d3.ex) 1
          have c2' : w3.cell? ⟨wr.heap.size, 2, none⟩ = some (.int .i64 c.size) := cell_of (hbox d3.ex) 2
          have c3' : w3.cell? ⟨wr.heap.size, 3, none⟩ = some (.string c.s) := cell_of (hbox d3.ex) 3
          clear d3
          go_wp2_with fail
          refine (wbits_all wa.heap.size vb N L 65536 n c.size _ hT2.b (by omega) (by decide) hn64).mono ?_
          rintro e w4 ⟨rfl, d4⟩
          obtain ⟨vb2, hT3⟩ := hT2.doesB d4
          have hsame := same_bits L most n c.size (by omega)
          have hsz := bits_size L most n c.size
          have hszB := bits_size L 65536 n c.size
          clear d4 c1' c2' c3'
          rcases hsame with ⟨e1, e2, e3⟩ | ⟨e1, e2⟩
          · rw [e1, e2] at hT3
            rw [e2, if_pos rfl] at hszB
            rw [e1, e2]
            clear e1 e2 hsz
            rw [if_neg (by decide), if_neg (by decide), if_pos rfl, if_pos rfl] at hT3
            go_wp2_with fail
            refine (wtext_any wa.heap.size vb2 _ _ 65536 _ hT3.b (by omega)).mono ?_
            rintro e w5 ⟨rfl, f5⟩
            have hT4 := hT3.quiet f5
            have e4 : (most : Int) < ((wtext (N + n * 2 ^ L) (L + c.size.toNat)).size : Int) := by rw [wtext_size]; omega
            go_wp2_with fail
            refine (alive02 _).mono ?_
            rintro e w6 ⟨rfl, hb⟩
            go_wp2_with fail
            go_ret
            exact ⟨rfl, (Fr.of_below (l := []) hb).out ((Fr.of_below (l := []) hT4.below).out fh.below (by simp)) (by simp)⟩
          · rw [← e1] at hT3 hszB
            rw [← e1]
            generalize wbE L most n c.size = E at *
            generalize (if E = 0 then (N + n * 2 ^ L) else N) = N2 at *
            generalize (if E = 0 then (L + c.size.toNat) else L) = L2 at *
            have e4 : (E == 4) = false := by rw [beq_eq_false_iff_ne]; exact e2
            have hL2 : L2 ≤ 200000 := by omega
            have hrm := hT3.a.rm
            go_wp2_with fail
            refine (wtext_any wh.heap.size va2 N2 L2 most _ hT3.a (by omega)).mono ?_
            rintro e w5 ⟨rfl, f5⟩
            have hT4 := hT3.quiet f5
            go_wp2_with fail
            refine (wtext_any wa.heap.size vb2 N2 L2 65536 _ hT4.b (by omega)).mono ?_
            rintro e w6 ⟨rfl, f6⟩
            have hT5 := hT4.quiet f6
            go_wp2_with fail
            refine (wlen_fr wh.heap.size va2 N2 L2 most _ hT5.a (by omega)).mono ?_
            rintro e w7 ⟨rfl, f7⟩
            have hT6 := hT5.quiet f7
            go_wp2_with fail
            refine (wlen_fr wa.heap.size vb2 N2 L2 65536 _ hT6.b (by omega)).mono ?_
            rintro e w8 ⟨rfl, f8⟩
            have hT7 := hT6.quiet f8
            go_wp2_with fail
            refine (wtext_any wa.heap.size vb2 N2 L2 65536 _ hT7.b (by omega)).mono ?_
            rintro e w9 ⟨rfl, f9⟩
            have hT8 := hT7.quiet f9
            have e5 : ((wtext N2 L2).size : Int) ≤ (most : Int) := by rw [wtext_size]; omega
            go_wp2_with fail
            go_roundw
            case rel => exact ⟨k + 1, N2, L2, va2, vb2, by omega, by go_num, by have := HN.out.1; have := HN.out.2.2; omega, hT8⟩
            case measure => simp [intOf]; omega
        · have hm' := hm
          clear hm
          go_wp2_with fail
          refine (walign_all wh.heap.size va N L most _ hT1.a (by omega) (by omega)).mono ?_
          rintro e w3 ⟨rfl, d3⟩
          obtain ⟨va2, hT2⟩ := hT1.doesA d3
          have c1' : w3.cell? ⟨wr.heap.size, 1, none⟩ = some (.int .u64 n) := cell_of (hbox d3.ex) 1
          have c2' : w3.cell? ⟨wr.heap.size, 2, none⟩ = some (.int .i64 c.size) := cell_of (hbox d3.ex) 2
          have c3' : w3.cell? ⟨wr.heap.size, 3, none⟩ = some (.string c.s) := cell_of (hbox d3.ex) 3
          clear d3
          go_wp2_with fail
          refine (walign_all wa.heap.size vb N L 65536 _ hT2.b (by omega) (by decide)).mono ?_
          rintro e w4 ⟨rfl, d4⟩
          obtain ⟨vb2, hT3⟩ := hT2.doesB d4
          have hsame := same_align L most
          have hsz : (if (0 : Int) = 0 then L + pad L else L) ≤ L + 7 := by have := pad_lt L; rw [if_pos rfl]; omega
          have hszB := hsz
          clear d4 c1' c2' c3'
          · simp only [if_pos] at hT3 hsz
            clear hsame hszB
            generalize hN2 : N = N2 at hT3
            generalize L + pad L = L2 at *
            have hL2 : L2 ≤ 200000 := by omega
            have hrm := hT3.a.rm
            go_wp2_with fail
            refine (wtext_any wh.heap.size va2 N2 L2 most _ hT3.a (by omega)).mono ?_
            rintro e w5 ⟨rfl, f5⟩
            have hT4 := hT3.quiet f5
            go_wp2_with fail
            refine (wtext_any wa.heap.size vb2 N2 L2 65536 _ hT4.b (by omega)).mono ?_
            rintro e w6 ⟨rfl, f6⟩
            have hT5 := hT4.quiet f6
            go_wp2_with fail
            refine (wlen_fr wh.heap.size va2 N2 L2 most _ hT5.a (by omega)).mono ?_
            rintro e w7 ⟨rfl, f7⟩
            have hT6 := hT5.quiet f7
            go_wp2_with fail
            refine (wlen_fr wa.heap.size vb2 N2 L2 65536 _ hT6.b (by omega)).mono ?_
            rintro e w8 ⟨rfl, f8⟩
            have hT7 := hT6.quiet f8
            go_wp2_with fail
            refine (wtext_any wa.heap.size vb2 N2 L2 65536 _ hT7.b (by omega)).mono ?_
            rintro e w9 ⟨rfl, f9⟩
            have hT8 := hT7.quiet f9
            have e5 : ((wtext N2 L2).size : Int) ≤ (most : Int) := by rw [wtext_size]; omega
            go_wp2_with fail
            go_roundw
            case rel => exact ⟨k + 1, N2, L2, va2, vb2, by omega, by go_num, by have := HN.out.1; have := HN.out.2.2; omega, hT8⟩
            case measure => simp [intOf]; omega
        · have hm' := hm
          clear hm
          go_wp2_with fail
          refine (wbytes_all wh.heap.size va N L most c.s _ hT1.a (by omega) (by omega) (by omega)).mono ?_
          rintro e w3 ⟨rfl, d3⟩
          obtain ⟨va2, hT2⟩ := hT1.doesA d3
          have c1' : w3.cell? ⟨wr.heap.size, 1, none⟩ = some (.int .u64 n) := cell_of (hbox d3.ex) 1
          have c2' : w3.cell? ⟨wr.heap.size, 2, none⟩ = some (.int .i64 c.size) := cell_of (hbox d3.ex) 2
          have c3' : w3.cell? ⟨wr.heap.size, 3, none⟩ = some (.string c.s) := cell_of (hbox d3.ex) 3
          clear d3
          go_wp2_with fail
          refine (wbytes_all wa.heap.size vb N L 65536 c.s _ hT2.b (by omega) (by omega) (by decide)).mono ?_
          rintro e w4 ⟨rfl, d4⟩
          obtain ⟨vb2, hT3⟩ := hT2.doesB d4
          have hsame := same_bytes L most c.s (by omega) hcs
          have hsz : (if wbytesE L most c.s = 0 then L + pad L + 8 * c.s.size else L) ≤ L + 7 + 8 * c.s.size := by have := pad_lt L; split <;> omega
          have hszB : (if wbytesE L 65536 c.s = 0 then L + pad L + 8 * c.s.size else L) ≤ L + 7 + 8 * c.s.size := by have := pad_lt L; split <;> omega
          clear d4 c1' c2' c3'
          rcases hsame with ⟨e1, e2, e3⟩ | ⟨e1, e2⟩
          · rw [e1, e2] at hT3
            rw [e2, if_pos rfl] at hszB
            rw [e1, e2]
            clear e1 e2 hsz
            rw [if_neg (by decide), if_neg (by decide), if_pos rfl, if_pos rfl] at hT3
            go_wp2_with fail
            refine (wtext_any wa.heap.size vb2 _ _ 65536 _ hT3.b (by omega)).mono ?_
            rintro e w5 ⟨rfl, f5⟩
            have hT4 := hT3.quiet f5
            have e4 : (most : Int) < ((wtext (N + num c.s * 2 ^ (L + pad L)) (L + pad L + 8 * c.s.size)).size : Int) := by rw [wtext_size]; omega
            go_wp2_with fail
            refine (alive02 _).mono ?_
            rintro e w6 ⟨rfl, hb⟩
            go_wp2_with fail
            go_ret
            exact ⟨rfl, (Fr.of_below (l := []) hb).out ((Fr.of_below (l := []) hT4.below).out fh.below (by simp)) (by simp)⟩
          · rw [← e1] at hT3 hszB
            rw [← e1]
            generalize wbytesE L most c.s = E at *
            generalize (if E = 0 then (N + num c.s * 2 ^ (L + pad L)) else N) = N2 at *
            generalize (if E = 0 then (L + pad L + 8 * c.s.size) else L) = L2 at *
            have e4 : (E == 4) = false := by rw [beq_eq_false_iff_ne]; exact e2
            have hL2 : L2 ≤ 200000 := by omega
            have hrm := hT3.a.rm
            go_wp2_with fail
            refine (wtext_any wh.heap.size va2 N2 L2 most _ hT3.a (by omega)).mono ?_
            rintro e w5 ⟨rfl, f5⟩
            have hT4 := hT3.quiet f5
            go_wp2_with fail
            refine (wtext_any wa.heap.size vb2 N2 L2 65536 _ hT4.b (by omega)).mono ?_
            rintro e w6 ⟨rfl, f6⟩
            have hT5 := hT4.quiet f6
            go_wp2_with fail
            refine (wlen_fr wh.heap.size va2 N2 L2 most _ hT5.a (by omega)).mono ?_
            rintro e w7 ⟨rfl, f7⟩
            have hT6 := hT5.quiet f7
            go_wp2_with fail
            refine (wlen_fr wa.heap.size vb2 N2 L2 65536 _ hT6.b (by omega)).mono ?_
            rintro e w8 ⟨rfl, f8⟩
            have hT7 := hT6.quiet f8
            go_wp2_with fail
            refine (wtext_any wa.heap.size vb2 N2 L2 65536 _ hT7.b (by omega)).mono ?_
            rintro e w9 ⟨rfl, f9⟩
            have hT8 := hT7.quiet f9
            have e5 : ((wtext N2 L2).size : Int) ≤ (most : Int) := by rw [wtext_size]; omega
            go_wp2_with fail
            go_roundw
            case rel => exact ⟨k + 1, N2, L2, va2, vb2, by omega, by go_num, by have := HN.out.1; have := HN.out.2.2; omega, hT8⟩
            case measure => simp [intOf]; omega
        · have hm' := hm
          clear hm
          go_wp2_with fail
          refine (wbytes_all wh.heap.size va N L most c.s _ hT1.a (by omega) (by omega) (by omega)).mono ?_
          rintro e w3 ⟨rfl, d3⟩
          obtain ⟨va2, hT2⟩ := hT1.doesA d3
          have c1' : w3.cell? ⟨wr.heap.size, 1, none⟩ = some (.int .u64 n) := cell_of (hbox d3.ex) 1
          have c2' : w3.cell? ⟨wr.heap.size, 2, none⟩ = some (.int .i64 c.size) := cell_of (hbox d3.ex) 2
          have c3' : w3.cell? ⟨wr.heap.size, 3, none⟩ = some (.string c.s) := cell_of (hbox d3.ex) 3
          clear d3
          go_wp2_with fail
          refine (wbytes_all wa.heap.size vb N L 65536 c.s _ hT2.b (by omega) (by omega) (by decide)).mono ?_
          rintro e w4 ⟨rfl, d4⟩
          obtain ⟨vb2, hT3⟩ := hT2.doesB d4
          have hsame := same_bytes L most c.s (by omega) hcs
          have hsz : (if wbytesE L most c.s = 0 then L + pad L + 8 * c.s.size else L) ≤ L + 7 + 8 * c.s.size := by have := pad_lt L; split <;> omega
          have hszB : (if wbytesE L 65536 c.s = 0 then L + pad L + 8 * c.s.size else L) ≤ L + 7 + 8 * c.s.size := by have := pad_lt L; split <;> omega
          clear d4 c1' c2' c3'
          rcases hsame with ⟨e1, e2, e3⟩ | ⟨e1, e2⟩
          · rw [e1, e2] at hT3
            rw [e2, if_pos rfl] at hszB
            rw [e1, e2]
            clear e1 e2 hsz
            rw [if_neg (by decide), if_neg (by decide), if_pos rfl, if_pos rfl] at hT3
            go_wp2_with fail
            refine (wtext_any wa.heap.size vb2 _ _ 65536 _ hT3.b (by omega)).mono ?_
            rintro e w5 ⟨rfl, f5⟩
            have hT4 := hT3.quiet f5
            have e4 : (most : Int) < ((wtext (N + num c.s * 2 ^ (L + pad L)) (L + pad L + 8 * c.s.size)).size : Int) := by rw [wtext_size]; omega
            go_wp2_with fail
            refine (alive02 _).mono ?_
            rintro e w6 ⟨rfl, hb⟩
            go_wp2_with fail
            go_ret
            exact ⟨rfl, (Fr.of_below (l := []) hb).out ((Fr.of_below (l := []) hT4.below).out fh.below (by simp)) (by simp)⟩
          · rw [← e1] at hT3 hszB
            rw [← e1]
            generalize wbytesE L most c.s = E at *
            generalize (if E = 0 then (N + num c.s * 2 ^ (L + pad L)) else N) = N2 at *
            generalize (if E = 0 then (L + pad L + 8 * c.s.size) else L) = L2 at *
            have e4 : (E == 4) = false := by rw [beq_eq_false_iff_ne]; exact e2
            have hL2 : L2 ≤ 200000 := by omega
            have hrm := hT3.a.rm
            go_wp2_with fail
            refine (wtext_any wh.heap.size va2 N2 L2 most _ hT3.a (by omega)).mono ?_
            rintro e w5 ⟨rfl, f5⟩
            have hT4 := hT3.quiet f5
            go_wp2_with fail
            refine (wtext_any wa.heap.size vb2 N2 L2 65536 _ hT4.b (by omega)).mono ?_
            rintro e w6 ⟨rfl, f6⟩
            have hT5 := hT4.quiet f6
            go_wp2_with fail
            refine (wlen_fr wh.heap.size va2 N2 L2 most _ hT5.a (by omega)).mono ?_
            rintro e w7 ⟨rfl, f7⟩
            have hT6 := hT5.quiet f7
            go_wp2_with fail
            refine (wlen_fr wa.heap.size vb2 N2 L2 65536 _ hT6.b (by omega)).mono ?_
            rintro e w8 ⟨rfl, f8⟩
            have hT7 := hT6.quiet f8
            go_wp2_with fail
            refine (wtext_any wa.heap.size vb2 N2 L2 65536 _ hT7.b (by omega)).mono ?_
            rintro e w9 ⟨rfl, f9⟩
            have hT8 := hT7.quiet f9
            have e5 : ((wtext N2 L2).size : Int) ≤ (most : Int) := by rw [wtext_size]; omega
            go_wp2_with fail
            go_roundw
            case rel => exact ⟨k + 1, N2, L2, va2, vb2, by omega, by go_num, by have := HN.out.1; have := HN.out.2.2; omega, hT8⟩
            case measure => simp [intOf]; omega
      · have hlt' : ¬ (k : Int) < (x1.length : Int) := by omega
        go_wp2_with fail
        refine (alive02 _).mono ?_
        rintro e w9 ⟨rfl, hb⟩
        go_wp2_with fail
        go_ret
        exact ⟨rfl, (Fr.of_below (l := []) hb).out ((Fr.of_below (l := []) hTw.below).out fh.below (by simp)) (by simp)⟩
end Go.Proofs.Ytlognooioemenaa
