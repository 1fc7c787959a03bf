/- platenlaw13.weigh: how many bits the symbols of tokens take, by codes. BlockBest: a block takes as many bits as its symbols do by its codes, and its head. -/
import Derived.Test.YtciejmlhdmjajaaKFb
import Derived.Test.YtciejmlhdmjajaaKEz
import Derived.Test.YtciejmlhdmjajaaKEy
namespace Go.Proofs.Ytciejmlhdmjajaa
open Go.RowKit
set_option linter.unusedVariables false
set_option linter.unusedSimpArgs false

theorem takesL_take (lit dist : List Nat) (L : List Sy) (k : Nat) (s : Sy) (h : L[k]? = some s) : takesL lit dist (L.take (k + 1)) = takesL lit dist (L.take k) + s.takes lit dist := by
  rw [List.take_add_one, h, takesL_append]
  simp [takesL]
set_option maxRecDepth 100000 in
set_option maxHeartbeats 6400000 in
theorem lawWeigh_ok (a : Option Addr) (c : Nat) (l : List Tok) (aL aD : Option Addr) (cL cD : Nat) (lit dist : List Nat) (w : World) (hs : SlOf Tok.enc Tok.sz w a l) (hl : l.length ≤ 100000) (hok : ∀ t ∈ l, t.ok) (hmay : ∀ t ∈ l, t.may = true)
    (hL : SlOf U8 1 w aL lit) (hD : SlOf U8 1 w aD dist) (h8 : ∀ x ∈ lit, x < 256) (k8 : ∀ x ∈ dist, x < 256) (hll : 286 ≤ lit.length) (hll2 : lit.length ≤ 300) (hdl : dist.length = 30) (hp : ∀ s ∈ symsL l, 0 < (if s.dist then dist else lit).getD s.n 0) :
    Calls Try.prog 19 #[.slice a l.length c, .agg #[.slice aL lit.length cL, .slice aD dist.length cD]] w fun e w' => e = .returned (.tuple #[.int .i64 ((takesL lit dist (symsL l) : Nat) : Int), .bool true]) ∧ Fr [] w w' := by
  have hso := symsL_ok hmay fun t ht => (hok t ht).1
  have hsl := symsL_len l
  have HS := Lib.hid (fun W (f : Fr [] w W) => refSyms_ok a c l W (hs.fr f fun _ _ => by simp) hl hok hmay)
  obtain ⟨L, hLe⟩ : ∃ L, symsL l = L := ⟨_, rfl⟩
  rw [hLe] at hso hsl hp HS
  have hLi : (L.length : Int) ≤ 200001 := by omega
  have HB := Lib.hid (And.intro hL (And.intro hD (And.intro h8 (And.intro k8 (And.intro hll (And.intro hdl (And.intro hso (And.intro hp (And.intro hLe hll2)))))))))
  rw [hLe]
  have hdli : dist.length = 30 := hdl
  obtain ⟨nl, hnl⟩ : ∃ nl, lit.length = nl := ⟨_, rfl⟩
  obtain ⟨nd, hnd⟩ : ∃ nd, dist.length = nd := ⟨_, rfl⟩
  have HNL := Lib.hid (And.intro hnl hnd)
  have hnli : 286 ≤ (nl : Int) := by omega
  have hnli2 : (nl : Int) ≤ 300 := by omega
  have hndi : (nd : Int) = 30 := by omega
  have hndi2 : 30 ≤ (nd : Int) := by omega
  have hndi3 : (nd : Int) ≤ 30 := by omega
  rw [hnl, hnd]
  clear hs hl hok hmay hL hD h8 k8 hll hdl hp hso hsl hLe hdli hnl hnd hndi hll2
  go_enter Try.func19, Try.ntmps19
  go_wp2_with fail
  refine (HS.out _ (Fr.alloc _ _ _)).mono ?_
  rintro e w1 ⟨ao, co, rfl, hsr, f1, -⟩
  have x0 := f1.blk (alloc_last w (.cells #[.slice aL nl cL, .slice aD nd cD] 27)) (by simp)
  have c0 := cell_of x0 0
  have c1 := cell_of x0 1
  simp at c0 c1
  have HX := Lib.hid (And.intro hsr (And.intro ((Fr.alloc _ _ _).trans f1 : Fr [] w w1) x0))
  clear hsr f1 x0
  go_wp2_with fail
  go_loopw [6, 8] (fun v6 v8 wr => ∃ (k n : Nat), k ≤ L.length ∧ v8 = .int .i64 (k : Int) ∧ v6 = .int .i64 ((takesL lit dist (L.take k) : Nat) : Int) ∧ wr = w1.drewN n) (fun _ v8 _ => L.length - (intOf v8).toNat)
  case atStart => exact ⟨0, 0, by omega, rfl, by simp [takesL], rfl⟩
  case round =>
    obtain ⟨k, nq, hk, rfl, rfl, rfl⟩ := hrel
    by_cases hlt : k < L.length
    · have hki : (k : Int) < (L.length : Int) := by omega
      obtain ⟨s, hsk⟩ : ∃ s, L[k]? = some s := ⟨L[k], List.getElem?_eq_getElem hlt⟩
      obtain ⟨hL, hD, h8, k8, hll, hdl, hso, hp, hLe, hll2⟩ := HB.out
      have hsm := List.mem_of_getElem? hsk
      have hsok := hso s hsm
      have hsp := hp s hsm
      have fw : Fr [] w (w1.drewN nq) := HX.out.2.1.trans (Fr.drewN _ _ _)
      obtain ⟨b, o, rfl, hbl, hcell⟩ := (HX.out.1.fr (Fr.drewN [] w1 nq) fun _ _ => by simp) (by intro h; rw [h] at hlt; simp at hlt)
      have hT := takesL_le lit dist h8 k8 (L.take k) fun x hx => hso x (List.mem_of_mem_take hx)
      rw [List.length_take] at hT
      have HT := Lib.hid (takesL_take lit dist L k s hsk)
      obtain ⟨sd, sn, se, sb⟩ := s
      have k0 := hcell k _ hsk 0 (.bool sd) rfl
      have k1 := hcell k _ hsk 1 (.int .i64 (sn : Int)) rfl
      have k3 := hcell k _ hsk 3 (.int .i64 (sb : Int)) rfl
      simp only [Nat.add_zero] at k0
      rw [← Nat.add_assoc] at k1 k3
      have hsb : (sb : Int) ≤ 13 := by have := hsok.2.2; simp only at this; omega
      obtain ⟨T, hTe⟩ : ∃ T, takesL lit dist (L.take k) = T := ⟨_, rfl⟩
      rw [hTe] at hT HT ⊢
      have hTi : (T : Int) ≤ 100000000 := by omega
      have hnle := HNL.out.1
      have hnde := HNL.out.2
      cases sd
      · have hsn : sn < 286 := by have := hsok.1; simpa using this
        have hsni : (sn : Int) < 286 := by omega
        obtain ⟨q, hq⟩ : ∃ q, lit[sn]? = some q := ⟨lit[sn]'(by omega), List.getElem?_eq_getElem _⟩
        obtain ⟨g1, o1, rfl, hg1, hc1⟩ := (hL.fr fw fun _ _ => by simp) (by intro h; rw [h] at hq; simp at hq)
        have cq := hc1 sn q hq 0 (.int .u8 (q : Int)) rfl
        rw [Nat.mul_one, Nat.add_zero] at cq
        have hq8 : (q : Int) ≤ 255 := by have := h8 q (List.mem_of_getElem? hq); omega
        have hq0 : 0 < q := by simpa [List.getD, hq] using hsp
        have hqb : ((q : Int) == 0) = false := by rw [beq_eq_false_iff_ne]; omega
        have HE := Lib.hid (show takesL lit dist (L.take (k + 1)) = T + (q + sb) by rw [HT.out]; unfold Sy.takes; simp [List.getD, hq])
        clear hL hD h8 k8 hll hdl hso hp hLe hll2 hsm hsok hsp fw hcell hT hTe hsk hq hc1 hsn hq0 HT hlt hnle hnde
        have k1' : w1.cell? ⟨b, o + k * 4 + 1, none⟩ = some (.int .i64 (sn : Int)) := by simpa using k1
        have k3' : w1.cell? ⟨b, o + k * 4 + 3, none⟩ = some (.int .i64 (sb : Int)) := by simpa using k3
        have cq' : w1.cell? ⟨g1, o1 + sn, none⟩ = some (.int .u8 (q : Int)) := by simpa using cq
        go_wp2_with fail
        refine wp_region_quiet_lit (by kernel_rfl) (by kernel_rfl) ?_
        repeat go_big_quiet_step (fail)
        refine wpQuiet_nil ?_
        intro _ hw'
        obtain ⟨nq2, hw''⟩ := hw'
        subst hw''
        rw [World.drewN_drewN]
        go_wp2_with fail
        refine ⟨⟨k + 1, nq + nq2, by omega, by go_num, ?_, rfl⟩, by simp [intOf]; omega⟩
        rw [HE.out]
        go_num
      · have hsn : sn < 30 := by have := hsok.1; simpa using this
        have hsni : (sn : Int) < 30 := by omega
        obtain ⟨q, hq⟩ : ∃ q, dist[sn]? = some q := ⟨dist[sn]'(by omega), List.getElem?_eq_getElem _⟩
        obtain ⟨g1, o1, rfl, hg1, hc1⟩ := (hD.fr fw fun _ _ => by simp) (by intro h; rw [h] at hq; simp at hq)
        have cq := hc1 sn q hq 0 (.int .u8 (q : Int)) rfl
        rw [Nat.mul_one, Nat.add_zero] at cq
        have hq8 : (q : Int) ≤ 255 := by have := k8 q (List.mem_of_getElem? hq); omega
        have hq0 : 0 < q := by simpa [List.getD, hq] using hsp
        have hqb : ((q : Int) == 0) = false := by rw [beq_eq_false_iff_ne]; omega
        have HE := Lib.hid (show takesL lit dist (L.take (k + 1)) = T + (q + sb) by rw [HT.out]; unfold Sy.takes; simp [List.getD, hq])
        clear hL hD h8 k8 hll hdl hso hp hLe hll2 hsm hsok hsp fw hcell hT hTe hsk hq hc1 hsn hq0 HT hlt hnle hnde
        have k1' : w1.cell? ⟨b, o + k * 4 + 1, none⟩ = some (.int .i64 (sn : Int)) := by simpa using k1
        have k3' : w1.cell? ⟨b, o + k * 4 + 3, none⟩ = some (.int .i64 (sb : Int)) := by simpa using k3
        have cq' : w1.cell? ⟨g1, o1 + sn, none⟩ = some (.int .u8 (q : Int)) := by simpa using cq
        go_wp2_with fail
        refine wp_region_quiet_lit (by kernel_rfl) (by kernel_rfl) ?_
        repeat go_big_quiet_step (fail)
        refine wpQuiet_nil ?_
        intro _ hw'
        obtain ⟨nq2, hw''⟩ := hw'
        subst hw''
        rw [World.drewN_drewN]
        go_wp2_with fail
        refine ⟨⟨k + 1, nq + nq2, by omega, by go_num, ?_, rfl⟩, by simp [intOf]; omega⟩
        rw [HE.out]
        go_num
    · have hke : k = L.length := by omega
      subst hke
      have hki : ¬ (L.length : Int) < (L.length : Int) := by omega
      have hle : L.take L.length = L := List.take_of_length_le (Nat.le_refl _)
      rw [hle]
      clear hle hlt hk
      go_wp2_with fail
      go_ret2
      exact ⟨rfl, HX.out.2.1.trans (Fr.drewN _ _ _)⟩
end Go.Proofs.Ytciejmlhdmjajaa
namespace Go.Proofs.Ytciejmlhdmjajaa
open Go.RowKit
set_option linter.unusedVariables false
set_option linter.unusedSimpArgs false

set_option maxRecDepth 100000 in
set_option maxHeartbeats 6400000 in
theorem blockBest_walk (w : World) (a0 : Option Addr) (c0 : Nat) (x0 : List RawT) (l0 : x0.length ≤ maxLen) (s0 : SlOf RawT.enc RawT.sz w a0 x0) (o0 : ∀ x, x ∈ x0 → x.ok) (a1 : Int) (w1 : (Lit.int .u8 a1).wf = true) :
    Calls Try.prog 4 #[.slice a0 x0.length c0, .int .u8 a1] w fun e w' => e = .returned (.bool true) ∧ Below w.heap.size w w' := by
  unfold maxLen at l0
  have h2 : 0 ≤ a1 ∧ a1 ≤ 255 := by simp [Lit.wf, IntKind.min, IntKind.max, IntKind.signed, IntKind.bits] at w1; omega
  obtain ⟨p, rfl⟩ : ∃ p : Nat, a1 = (p : Int) := ⟨a1.toNat, by omega⟩
  have hp : (p : Int) ≤ 255 := h2.2
  have HW := Lib.hid works13
  have hl1 : (x0.length : Int) ≤ 9223372036854775807 := by omega
  clear w1 h2
  by_cases hbig : 500 < x0.length
  · have hb1i : 500 < (x0.length : Int) := by omega
    clear hbig l0 s0 o0
    go_enter Try.func4, Try.ntmps4
    go_wp2_with fail
    refine (HW.out _).mono ?_
    rintro e w4 ⟨rfl, f4⟩
    have F4 := Lib.hid f4
    clear f4
    go_wp2_with fail
    go_ret
    exact ⟨rfl, F4.out.below⟩
  · have hb1i : (x0.length : Int) ≤ 500 := by omega
    have HM := Lib.hid (made_ok a0 c0 x0 w s0 (by omega) o0)
    have HL := Lib.hid (And.intro (madeL_ok x0 0 o0) (And.intro (madeL_len x0 0) (show x0.length ≤ 500 by omega)))
    clear hbig l0 s0 o0
    go_enter Try.func4, Try.ntmps4
    go_wp2_with fail
    refine HM.out.mono ?_
    rintro e w4 ⟨ao, co, rfl, hsl, f4⟩
    obtain ⟨l, hl⟩ : ∃ l, madeL 0 x0 = l := ⟨_, rfl⟩
    rw [hl] at HL hsl ⊢
    have hok : ∀ t ∈ l, t.ok := fun t ht => (HL.out.1 t ht).1
    have hmay : ∀ t ∈ l, t.may = true := fun t ht => (HL.out.1 t ht).2
    have hll : l.length ≤ 500 := by have := HL.out; omega
    have hso := symsL_ok hmay fun t ht => (hok t ht).1
    have hsn := symsL_len l
    obtain ⟨n, hn⟩ : ∃ n : Nat, (p : Int) % 20 = (n : Int) := ⟨p % 20, by omega⟩
    have hn2 : (n : Int) < 20 := by omega
    have C1 : Hid (∀ W, Fr [] w4 W → ∀ raw : ByteArray, raw.size ≤ 1048576 → Calls Try.prog 18 #[.int .u8 1, .slice ao l.length co, .string raw, .int .i64 (n : Int)] W fun e w' => e = .returned (.tuple #[.int .i64 ((3 + takesL fixLit fixDist (symsL l) : Nat) : Int), .int .i64 0]) ∧ Fr [] W w') := Lib.hid fun W f raw hr =>
      size_fixed ao co l raw n W (by omega) hr (hsl.fr0 f) (by omega) hok hmay
    have C2 : Hid (∀ W, Fr [] w4 W → ∀ raw : ByteArray, raw.size ≤ 1048576 → Calls Try.prog 18 #[.int .u8 2, .slice ao l.length co, .string raw, .int .i64 (n : Int)] W fun e w' => e = .returned (.tuple #[.int .i64 ((3 + headN (bestLit l) (bestDist l) + takesL (bestLit l) (bestDist l) (symsL l) : Nat) : Int), .int .i64 0]) ∧ Fr [] W w') := Lib.hid fun W f raw hr =>
      size_dyn ao co l raw n W (by omega) hr (hsl.fr0 f) (by omega) hok hmay
    have C3 := Lib.hid (fun W (f : Fr [] w4 W) => best_ok ao co l W (hsl.fr0 f) (by omega) hok hmay)
    have C5 : Hid (∀ W, Fr [] w4 W → ∀ g1 g2, Nrow W g1 5 .u8 288 fixF → Nrow W g2 5 .u8 30 (fun _ => 5) → Calls Try.prog 19 #[.slice ao l.length co, .agg #[.slice (some ⟨g1, 0, none⟩) 288 288, .slice (some ⟨g2, 0, none⟩) 30 30]] W fun e w' => e = .returned (.tuple #[.int .i64 ((takesL fixLit fixDist (symsL l) : Nat) : Int), .bool true]) ∧ Fr [] W w') := Lib.hid fun W f g1 g2 n1 n2 =>
      lawWeigh_ok ao co l (some ⟨g1, 0, none⟩) (some ⟨g2, 0, none⟩) 288 30 fixLit fixDist W (hsl.fr0 f) (by omega) hok hmay (nrow_sl n1) (nrow_sl n2) (fun x hx => by have := fixLit_le x hx; omega) (fun x hx => by have := fixDist_le x hx; omega) (by decide +kernel) (by decide +kernel) (by decide +kernel) (fun s hs => fixed_has s (hso s hs))
    have C6 : Hid (∀ W, Fr [] w4 W → ∀ g1 g2, Nrow W g1 5 .u8 286 (bestF false 286 (symsL l)) → Nrow W g2 5 .u8 30 (bestF true 30 (symsL l)) → Calls Try.prog 19 #[.slice ao l.length co, .agg #[.slice (some ⟨g1, 0, none⟩) 286 286, .slice (some ⟨g2, 0, none⟩) 30 30]] W fun e w' => e = .returned (.tuple #[.int .i64 ((takesL (bestLit l) (bestDist l) (symsL l) : Nat) : Int), .bool true]) ∧ Fr [] W w') := Lib.hid fun W f g1 g2 n1 n2 => by
      have h := lawWeigh_ok ao co l (some ⟨g1, 0, none⟩) (some ⟨g2, 0, none⟩) 286 30 (bestLit l) (bestDist l) W (hsl.fr0 f) (by omega) hok hmay (nrow_sl n1) (nrow_sl n2) (fun x hx => by have := bestLit_le l x hx; omega) (fun x hx => by have := bestDist_le l x hx; omega) (by rw [bestLit_len]; omega) (by rw [bestLit_len]; omega) (bestDist_len l) (fun s hs => best_has l hso s hs)
      rw [bestLit_len, bestDist_len] at h
      exact h
    have hX := best_le_fixed l hso
    have hY := head_more (bestLit l) (bestDist l) (by rw [bestLit_len]; omega) (bestLit_le l) (bestDist_le l)
    have hZ := takesL_le fixLit fixDist (fun x hx => by have := fixLit_le x hx; omega) (fun x hx => by have := fixDist_le x hx; omega) (symsL l) hso
    have hH := headN_le (bestLit l) (bestDist l) (by rw [bestLit_len]; omega) (by rw [bestDist_len]; omega)
    generalize takesL fixLit fixDist (symsL l) = A at *
    generalize takesL (bestLit l) (bestDist l) (symsL l) = B at *
    generalize headN (bestLit l) (bestDist l) = H at *
    rw [show ((3 + A : Nat) : Int) = 3 + (A : Int) by omega] at C1
    rw [show ((3 + H + B : Nat) : Int) = 3 + (H : Int) + (B : Int) by omega] at C2
    have hAi : (A : Int) ≤ 1000000000 := by omega
    have hBi : (B : Int) ≤ (A : Int) := by omega
    have hHi : 26 < (H : Int) := by omega
    have hHi2 : (H : Int) ≤ 10000 := by omega
    have HW4 : Hid (Fr [] w w4) := Lib.hid f4
    have HN := Lib.hid hn
    have hli : (l.length : Int) ≤ 500 := by omega
    clear hok hmay hll hso hsn hX hY hZ hH hl HM hsl f4
    go_wp2_with fail
    refine (C1.out _ (Fr.refl _ _) _ (by simp [ByteArray.size])).mono ?_
    rintro e w5 ⟨rfl, f5⟩
    have F5 := Lib.hid f5
    clear f5
    go_wp2_with fail
    refine (C2.out _ F5.out _ (by simp [ByteArray.size])).mono ?_
    rintro e w6 ⟨rfl, f6⟩
    have F6 := Lib.hid (F5.out.trans f6)
    clear f6
    go_wp2_with fail
    refine (C3.out _ F6.out).mono ?_
    rintro e w7 ⟨g1, g2, rfl, hg1, hg2, r1, r2, f7⟩
    have F7 := Lib.hid (And.intro r1 (And.intro r2 (F6.out.trans f7)))
    clear f7 r1 r2 hg1 hg2
    go_wp2_with fail
    refine (fixed_ok _).mono ?_
    rintro e w8 ⟨g3, g4, rfl, hg3, hg4, r3, r4, f8⟩
    have x8 := f8.blk (alloc_last w7 (.cells #[.slice (some ⟨g1, 0, none⟩) 286 286, .slice (some ⟨g2, 0, none⟩) 30 30] 27)) (by simp)
    have G8 := Lib.hid (((F7.out.2.2.trans (Fr.alloc _ _ _)).trans f8 : Fr [] w4 w8))
    have R8 := Lib.hid (And.intro ((F7.out.1.to (Fr.alloc [] _ _) (by simp)).to f8 (by simp)) (And.intro ((F7.out.2.1.to (Fr.alloc [] _ _) (by simp)).to f8 (by simp)) (And.intro r3 r4)))
    clear f8 r3 r4 hg3 hg4
    have X8 := Lib.hid x8
    clear x8
    go_wp2_with fail
    refine (C5.out _ G8.out _ _ R8.out.2.2.1 R8.out.2.2.2).mono ?_
    rintro e w9 ⟨rfl, f9⟩
    have x9 := f9.blk X8.out (by simp)
    have d0 := cell_of x9 0
    have d1 := cell_of x9 1
    simp at d0 d1
    have F9 := Lib.hid (And.intro (G8.out.trans f9) (And.intro (R8.out.1.to f9 (by simp)) (R8.out.2.1.to f9 (by simp))))
    have X9 := Lib.hid x9
    clear f9 x9
    go_wp2_with fail
    refine (C6.out _ F9.out.1 _ _ F9.out.2.1 F9.out.2.2).mono ?_
    rintro e w10 ⟨rfl, f10⟩
    have F10 := Lib.hid (HW4.out.trans (F9.out.1.trans f10))
    clear f10
    go_wp2_with fail
    refine (HW.out _).mono ?_
    rintro e w11 ⟨rfl, f11⟩
    have F11 := Lib.hid (F10.out.trans f11)
    clear f11
    go_wp2_with fail
    go_ret
    exact ⟨rfl, F11.out.below⟩
end Go.Proofs.Ytciejmlhdmjajaa

