/- The statements ModsTells and ModsReads: the walks of their Go functions. -/
import Derived.Test.YtoicdepkakgedaaMo
import Derived.Deep.RegionHeld3
namespace Go.Proofs.Ytoicdepkakgedaa
open Go.RowKit
set_option linter.unusedVariables false
set_option linter.unusedSimpArgs false

def Md.sz : Nat := 2
def Md.ok (m : Md) : Prop := (-9223372036854775808 ≤ m.at_ ∧ m.at_ ≤ 9223372036854775807) ∧ m.text.size ≤ 140737488351232
open Go.ChangeShapes Go.WideShapes Go.Deep in
theorem open_md {H : Type} {henc : TypeId × Value → H} {w : World} {v : Value} {d : DataW H} {ps : List MemPlace} {b0 : Nat} {r : Reach}
    (hval : Value.okWide Try.prog w r b0 22 v) (hd : DataW.Trod henc Try.prog w 0 (fun _ => true) true 22 v d ps) (hwt : ∀ n ∈ d.weights Try.prog 22, n ≤ reachBytes) :
    ∃ a0 cap, ∃ xs : List Md, v = .slice a0 xs.length cap ∧ xs.length ≤ maxLen ∧ SlOf Md.enc Md.sz w a0 xs ∧ ∀ x, x ∈ xs → x.ok := by
  refine open_structs_w Md.enc Md.ok Try.underlying22 Try.underlying34 (by kernel_rfl) (by kernel_rfl) (by decide) hval hd (fun _ => rfl) hwt (fun a n ⟨ys, hws, hf⟩ => ?_)
  obtain ⟨v0, y0, c0, _, t0⟩ := hf 0 _ rfl
  obtain ⟨v1, y1, c1, hy1, t1⟩ := hf 1 _ rfl
  obtain ⟨n0, e0, _, g0⟩ := DataW.trod_int Try.underlying3 t0
  obtain ⟨n1, e1, hs1, _⟩ := DataW.trod_string Try.underlying9 t1
  have g1 := text_le hws rfl hy1 hs1
  simp only [List.cons.injEq, and_true] at e0 e1
  subst e0 e1
  refine ⟨⟨n0, n1⟩, ⟨bounds_i64 g0, g1⟩, fun j u hu => ?_⟩
  match j, hu with
  | 0, hu => simp [Md.enc] at hu; subst hu; exact c0
  | 1, hu => simp [Md.enc] at hu; subst hu; exact c1
  | j + 2, hu => simp [Md.enc] at hu

set_option maxRecDepth 2000000 in
set_option maxHeartbeats 1600000 in
theorem modsReads_walk (w : World) (a0 : Int) (w0 : (Lit.int .i64 a0).wf = true) (a1 : ByteArray) (w1 : a1.size ≤ maxLen) (a2 : ByteArray) (w2 : a2.size ≤ maxLen) :
    Calls Try.prog 8 #[.int .i64 a0, .string a1, .string a2] w fun e w' => e = .returned (.bool true) ∧ Below w.heap.size w w' := by
  unfold maxLen at w1 w2
  have i1 : (a1.size : Int) ≤ 9223372036854775807 := by omega
  have i2 : (a2.size : Int) ≤ 9223372036854775807 := by omega
  clear w0 w1 w2
  by_cases h1 : 32768 < a1.size
  · have j1 : (32768 : Int) < (a1.size : Int) := by omega
    clear h1
    go_enter Try.func8, Try.ntmps8
    go_wp2_with fail
    refine (alive_any _).mono ?_
    rintro e w1 ⟨rfl, f1⟩
    go_wp2_with fail
    go_ret
    exact ⟨rfl, f1.below⟩
  by_cases h2 : 16385 < a2.size
  · have j1 : (a1.size : Int) ≤ 32768 := by omega
    have j2 : (16385 : Int) < (a2.size : Int) := by omega
    clear h1 h2
    go_enter Try.func8, Try.ntmps8
    go_wp2_with fail
    refine (alive_any _).mono ?_
    rintro e w1 ⟨rfl, f1⟩
    go_wp2_with fail
    go_ret
    exact ⟨rfl, f1.below⟩
  have j1 : (a1.size : Int) ≤ 32768 := by omega
  have j2 : (a2.size : Int) ≤ 16385 := by omega
  have hl : (decV a0 a1).length ≤ 1000000000 := by have := length_sizeN (decV a0 a1); have := decV_size a0 a1; omega
  have hD : ∀ W, Calls Try.prog 22 #[.int .i64 a0, .string a1] W fun e w' => ∃ a b, e = .returned (.tuple #[.slice a (decV a0 a1).length b, .int .i64 (decE a0 a1)]) ∧ SlOf Md.enc 2 w' a (decV a0 a1) ∧ Fr [] W w' := fun W => by
    refine (decode_any a0 a1 W (by omega)).mono ?_
    rintro e w' ⟨v, rfl, h1, h2⟩
    obtain ⟨a, b, rfl, h3⟩ := slOf_own md_len h1 rfl
    exact ⟨a, b, rfl, h3, h2⟩
  have hD2 : ∀ W, Calls Try.prog 26 #[.int .i64 a0, .string a1] W fun e w' => ∃ a b, e = .returned (.tuple #[.slice a (decV a0 a1).length b, .int .i64 (decE a0 a1)]) ∧ SlOf Md.enc 2 w' a (decV a0 a1) ∧ Fr [] W w' := fun W => by
    refine (rdecode_any a0 a1 W (by omega)).mono ?_
    rintro e w' ⟨v, rfl, h1, h2⟩
    obtain ⟨a, b, rfl, h3⟩ := slOf_own md_len h1 rfl
    exact ⟨a, b, rfl, h3, h2⟩
  have hR := fun W => replay_any a2 a1 W (by omega) (by omega)
  have hR2 := fun W => rreplay_any a2 a1 W (by omega) (by omega)
  have hS := fun W a b c d h k => same_any a b c d (decV a0 a1) (decV a0 a1) W h k hl hl
  simp only [decide_true] at hS
  have H := Lib.hid (And.intro hD (And.intro hD2 (And.intro hR (And.intro hR2 hS))))
  clear hD hD2 hR hR2 hS hl h1 h2
  generalize decV a0 a1 = V at *
  generalize decE a0 a1 = E at *
  generalize repS a2 a1 = RS at *
  generalize repE a2 a1 = RE at *
  go_enter Try.func8, Try.ntmps8
  go_wp2_with fail
  refine (H.out.1 _).mono ?_
  rintro e w1 ⟨p1, q1, rfl, s1, f1⟩
  have H1 := Lib.hid (And.intro s1 f1)
  clear s1 f1
  go_wp2_with fail
  refine (H.out.2.1 _).mono ?_
  rintro e w2 ⟨p2, q2, rfl, s2, f2⟩
  have H2 := Lib.hid (And.intro s2 (And.intro (H1.out.1.to f2) (H1.out.2.trans f2)))
  clear s2 f2
  go_wp2_with fail
  refine (H.out.2.2.1 _).mono ?_
  rintro e w3 ⟨rfl, f3⟩
  have H3 := Lib.hid (And.intro (H2.out.1.to f3) (And.intro (H2.out.2.1.to f3) (H2.out.2.2.trans f3)))
  clear f3
  go_wp2_with fail
  refine (H.out.2.2.2.1 _).mono ?_
  rintro e w4 ⟨rfl, f4⟩
  have H4 := Lib.hid (And.intro (H3.out.1.to f4) (And.intro (H3.out.2.1.to f4) (H3.out.2.2.trans f4)))
  clear f4
  go_wp2_with fail
  refine (H.out.2.2.2.2 _ _ _ _ _ H4.out.2.1 H4.out.1).mono ?_
  rintro e w5 ⟨rfl, f5⟩
  have H5 := Lib.hid (H4.out.2.2.trans f5)
  clear f5
  go_wp2_with fail
  refine (alive_any _).mono ?_
  rintro e w6 ⟨rfl, f6⟩
  go_wp2_with fail
  go_ret
  exact ⟨rfl, (H5.out.trans f6).below⟩

set_option maxRecDepth 2000000 in
set_option maxHeartbeats 1600000 in
theorem modsTells_walk (w : World) (a0 : Int) (w0 : (Lit.int .i64 a0).wf = true) (a1 : Option Addr) (c1 : Nat) (x1 : List Md) (l1 : x1.length ≤ maxLen) (s1 : SlOf Md.enc Md.sz w a1 x1) (o1 : ∀ x, x ∈ x1 → x.ok) (a2 : ByteArray) (w2 : a2.size ≤ maxLen) :
    Calls Try.prog 3 #[.int .i64 a0, .slice a1 x1.length c1, .string a2] w fun e w' => e = .returned (.bool true) ∧ Below w.heap.size w w' := by
  unfold maxLen at w2
  have i2 : (a2.size : Int) ≤ 9223372036854775807 := by omega
  have HL := Lib.hid (fun W (h : SlOf Md.enc 2 W a1 x1) => long_any a1 c1 x1 W h l1 (fun m hm => (o1 m hm).2))
  have S1 := Lib.hid (show SlOf Md.enc 2 w a1 x1 from s1)
  have hok := Lib.hid o1
  unfold maxLen at l1
  have i1 : (x1.length : Int) ≤ 9223372036854775807 := by omega
  clear s1 w0 w2 o1 l1
  cases hlong : longB x1 with
  | true =>
    rw [hlong] at HL
    clear hlong
    go_enter Try.func3, Try.ntmps3
    go_wp2_with fail
    refine (HL.out _ S1.out).mono ?_
    rintro e w1 ⟨rfl, rfl⟩
    go_wp2_with fail
    refine (alive_any _).mono ?_
    rintro e w1 ⟨rfl, f1⟩
    go_wp2_with fail
    go_ret
    exact ⟨rfl, f1.below⟩
  | false =>
    obtain ⟨k1, k2, k3⟩ := longB_no hlong
    rw [hlong] at HL
    by_cases h2 : 16385 < a2.size
    · have j2 : (16385 : Int) < (a2.size : Int) := by omega
      clear h2 hlong k1 k2 k3
      go_enter Try.func3, Try.ntmps3
      go_wp2_with fail
      refine (HL.out _ S1.out).mono ?_
      rintro e w1 ⟨rfl, rfl⟩
      go_wp2_with fail
      refine (alive_any _).mono ?_
      rintro e w1 ⟨rfl, f1⟩
      go_wp2_with fail
      go_ret
      exact ⟨rfl, f1.below⟩
    · have j2 : (a2.size : Int) ≤ 16385 := by omega
      have j1 : (x1.length : Int) ≤ 100 := by omega
      have hE := fun W (h : SlOf Md.enc 2 W a1 x1) => encode_any a0 a1 c1 x1 W h (by omega) (by omega)
      have hE2 := fun W (h : SlOf Md.enc 2 W a1 x1) => rencode_any a0 a1 c1 x1 W h (by omega) (by omega)
      have hA := fun W (h : SlOf Md.enc 2 W a1 x1) => apply_any a2 a1 c1 x1 W h (by omega) (by omega) (by omega)
      have hA2 := fun W (h : SlOf Md.enc 2 W a1 x1) => rapply_any a2 a1 c1 x1 W h (by omega) (by omega) (by omega)
      have hZ := fun W (h : SlOf Md.enc 2 W a1 x1) => size_any a1 c1 x1 W h (by omega) (by omega)
      have hZ2 := fun W (h : SlOf Md.enc 2 W a1 x1) => rsize_any a1 c1 x1 W h (by omega) (by omega)
      have H := Lib.hid (And.intro hE (And.intro hE2 (And.intro hA (And.intro hA2 (And.intro hZ hZ2)))))
      have hzi : (sizeN x1 : Int) ≤ 33168 := by omega
      clear hE hE2 hA hA2 hZ hZ2 hlong k1 k2 k3 h2
      generalize encS a0 x1 = ES at *
      generalize encE a0 x1 = EE at *
      generalize appS a2 x1 = AS at *
      generalize appE a2 x1 = AE at *
      go_enter Try.func3, Try.ntmps3
      go_wp2_with fail
      refine (HL.out _ S1.out).mono ?_
      rintro e w1 ⟨rfl, rfl⟩
      go_wp2_with fail
      refine (H.out.1 _ S1.out).mono ?_
      rintro e w1 ⟨rfl, f1⟩
      have H1 := Lib.hid (And.intro (S1.out.to f1) f1)
      clear f1
      go_wp2_with fail
      refine (H.out.2.1 _ H1.out.1).mono ?_
      rintro e w2 ⟨rfl, f2⟩
      have H2 := Lib.hid (And.intro (H1.out.1.to f2) (H1.out.2.trans f2))
      clear f2
      go_wp2_with fail
      refine (H.out.2.2.1 _ H2.out.1).mono ?_
      rintro e w3 ⟨rfl, f3⟩
      have H3 := Lib.hid (And.intro (H2.out.1.to f3) (H2.out.2.trans f3))
      clear f3
      go_wp2_with fail
      refine (H.out.2.2.2.1 _ H3.out.1).mono ?_
      rintro e w4 ⟨rfl, f4⟩
      have H4 := Lib.hid (And.intro (H3.out.1.to f4) (H3.out.2.trans f4))
      clear f4
      go_wp2_with fail
      go_loopw [15] (fun i wr => ∃ k : Nat, k ≤ x1.length ∧ i = .int .i64 k ∧ SlOf Md.enc 2 wr a1 x1 ∧ Fr [] w wr) (fun i _ => x1.length - (intOf i).toNat)
      case atStart => exact ⟨0, Nat.zero_le _, rfl, H4.out.1, H4.out.2⟩
      case round =>
        obtain ⟨k, hk, rfl, hS, hF⟩ := hrel
        have HS := Lib.hid (And.intro hS hF)
        clear hF
        by_cases hlt : k < x1.length
        · obtain ⟨m, hm⟩ : ∃ m, x1[k]? = some m := ⟨x1[k], List.getElem?_eq_getElem hlt⟩
          obtain ⟨b, o, rfl, hbl, hcell⟩ := hS (by intro h; rw [h] at hlt; simp at hlt)
          have HM := Lib.hid (hok.out m (List.mem_of_getElem? hm))
          obtain ⟨at_, tx⟩ := m
          have k0 := hcell k _ hm 0 (.int .i64 at_) rfl
          have k1 := hcell k _ hm 1 (.string tx) rfl
          simp only [Nat.add_zero] at k0 k1
          rw [← Nat.add_assoc] at k1
          have hki : (k : Int) < (x1.length : Int) := by omega
          clear hcell hm hS
          go_wp2_with fail
          have hc1 := fun W => may_any a0 ⟨at_, tx⟩ W (by have := HM.out.2; simp only at this ⊢; omega)
          have hc2 := fun W => rmay_any a0 ⟨at_, tx⟩ W (by have := HM.out.2; simp only at this ⊢; omega)
          generalize mayB a0 ⟨at_, tx⟩ = mb at *
          have HC := Lib.hid (And.intro hc1 hc2)
          clear hc1 hc2
          go_region_held3 (fun W => W.cell? ⟨b, o + k * 2, none⟩ = some (.int .i64 at_) ∧ W.cell? ⟨b, o + k * 2 + 1, none⟩ = some (.string tx)) (first | go_keep) (first | (go_at_call 16; go_must (refine (HC.out.1 _).mono ?_; rintro e w5 ⟨rfl, f5⟩; have f5' : Fr [] wr w5 := (Fr.drew (Fr.refl [] wr)).trans f5; have k0' : w5.cell? ⟨b, o + k * 2, none⟩ = some (.int .i64 at_) := (f5'.below.cell (p := ⟨b, _, none⟩) hbl).trans k0; have k1' : w5.cell? ⟨b, o + k * 2 + 1, none⟩ = some (.string tx) := (f5'.below.cell (p := ⟨b, _, none⟩) hbl).trans k1; have HF5 := Lib.hid f5'; clear f5 f5')) | (go_at_call 17; go_must (refine (HC.out.2 _).mono ?_; rintro e w6 ⟨rfl, f6⟩; have k0'' : w6.cell? ⟨b, o + k * 2, none⟩ = some (.int .i64 at_) := (f6.below.cell (p := ⟨b, _, none⟩) (Nat.lt_of_lt_of_le hbl HF5.out.size)).trans k0'; have k1'' : w6.cell? ⟨b, o + k * 2 + 1, none⟩ = some (.string tx) := (f6.below.cell (p := ⟨b, _, none⟩) (Nat.lt_of_lt_of_le hbl HF5.out.size)).trans k1'; have HF6 := Lib.hid f6; clear f6)))
          go_wp2_with fail
          go_roundw
          case rel => exact ⟨k + 1, by omega, by go_num, (HS.out.1.to HF5.out).to HF6.out, (HS.out.2.trans HF5.out).trans HF6.out⟩
          case measure => simp [intOf]; omega
        · clear hS
          go_wp2_with fail
          refine (page_any a0 _).mono ?_
          rintro e w5 ⟨rfl, rfl⟩
          go_wp2_with fail
          refine (rpage_any a0 _).mono ?_
          rintro e w5 ⟨rfl, rfl⟩
          go_wp2_with fail
          refine (H.out.2.2.2.2.1 _ HS.out.1).mono ?_
          rintro e w6 ⟨rfl, f6⟩
          have H6 := Lib.hid (And.intro (HS.out.1.to f6) (HS.out.2.trans f6))
          clear f6
          go_wp2_with fail
          refine (H.out.2.2.2.2.2 _ H6.out.1).mono ?_
          rintro e w7 ⟨rfl, rfl⟩
          go_wp2_with fail
          refine (alive_any _).mono ?_
          rintro e w8 ⟨rfl, f8⟩
          go_wp2_with fail
          go_ret
          exact ⟨rfl, (H6.out.2.trans f8).below⟩
end Go.Proofs.Ytoicdepkakgedaa
