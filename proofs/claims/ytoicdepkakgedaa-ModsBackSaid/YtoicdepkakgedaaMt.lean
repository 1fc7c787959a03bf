/- The statement ModsLast: the walk of its Go function. -/
import Derived.Test.YtoicdepkakgedaaMs
namespace Go.Proofs.Ytoicdepkakgedaa
open Go.RowKit
set_option linter.unusedVariables false
set_option linter.unusedSimpArgs false

theorem text_at (s : ByteArray) (k : Nat) (hk : k < s.size) (d : UInt8) (hd : s.data.toList.getD k 0 = d) : ∀ W, (Instr.index 9 (.string s) (.int .i64 (k : Int))).run Try.prog W = .ok (.int .u8 (d.toNat : Int)) W := fun W => by
  have := run_index_text (P := Try.prog) W 9 s .i64 k Try.underlying9 hk
  rw [this, ← hd, List.getD_eq_getElem?_getD, List.getElem?_eq_getElem (show k < s.data.toList.length by simpa using hk)]
  rfl
theorem u16_of {x : Int} (h : (Lit.int .u16 x).wf = true) : ∃ c : Nat, x = (c : Int) ∧ c < 65536 := by
  obtain ⟨h0, h1⟩ := bounds_u16 h
  exact ⟨x.toNat, by omega, by omega⟩
theorem lastB_take (l : List Md) (i k : Nat) (d : UInt8) (m : Md) (h : l[i]? = some m) : lastB (l.take (i + 1)) k d = stepB k (lastB (l.take i) k d) m := by
  obtain ⟨hi, he⟩ := List.getElem?_eq_some_iff.1 h
  unfold lastB
  rw [List.take_succ_eq_append_getElem hi, List.foldl_append, he]
  rfl
theorem allB_mem {p : Int} {l : List Md} (h : allB p l = true) {k : Nat} {m : Md} (hm : l[k]? = some m) : mayB p m = true := by
  unfold allB at h
  exact List.all_eq_true.1 h m (List.mem_of_getElem? hm)
theorem whole_again (A B : ByteArray) (hp : pageB B.size = true) (h : A.size = B.size) (h0 : 0 < A.size) : appS B [⟨0, A⟩] = A ∧ appE B [⟨0, A⟩] = 0 := by
  have hm : mayB B.size ⟨0, A⟩ = true := by
    unfold mayB; rw [hp]; simp only [Bool.true_and]; apply decide_eq_true; omega
  have ha : (pageB B.size && allB B.size [⟨0, A⟩]) = true := by rw [hp]; simp [allB, hm]
  obtain ⟨e1, e2⟩ := app_ok (t := B) (l := [⟨0, A⟩]) ha
  refine ⟨?_, e2⟩
  rw [e1]
  apply ByteArray.ext; apply Array.ext'
  simp only [applyL, putAt]
  simp
  omega

set_option maxRecDepth 2000000 in
set_option maxHeartbeats 3200000 in
theorem modsLast_walk (w : World) (a0 : ByteArray) (w0 : a0.size ≤ maxLen) (a1 : Option Addr) (c1 : Nat) (x1 : List Md) (l1 : x1.length ≤ maxLen) (s1 : SlOf Md.enc Md.sz w a1 x1) (o1 : ∀ x, x ∈ x1 → x.ok) (a2 : Int) (w2 : (Lit.int .u16 a2).wf = true) (a3 : Int) (w3 : (Lit.int .u8 a3).wf = true) :
    Calls Try.prog 6 #[.string a0, .slice a1 x1.length c1, .int .u16 a2, .int .u8 a3] w fun e w' => e = .returned (.bool true) ∧ Below w.heap.size w w' := by
  unfold maxLen at w0
  obtain ⟨c, rfl⟩ := u8_of w3
  obtain ⟨at0, rfl, hat0⟩ := u16_of w2
  have i0 : (a0.size : Int) ≤ 9223372036854775807 := by omega
  have HL := Lib.hid (fun W (h : SlOf Md.enc 2 W a1 x1) => long_any a1 c1 x1 W h l1 (fun m hm => (o1 m hm).2))
  have S1 := Lib.hid (show SlOf Md.enc 2 w a1 x1 from s1)
  have hok := Lib.hid o1
  unfold maxLen at l1
  have i1 : (x1.length : Int) ≤ 9223372036854775807 := by omega
  have hati : (at0 : Int) ≤ 65535 := by omega
  clear s1 w0 w2 w3 o1 l1
  by_cases h1 : 1024 < a0.size
  · have j1 : (1024 : Int) < (a0.size : Int) := by omega
    clear h1
    go_enter Try.func6, Try.ntmps6
    go_wp2_with fail
    refine (alive_any _).mono ?_
    rintro e w1 ⟨rfl, f1⟩
    go_wp2_with fail
    go_ret
    exact ⟨rfl, f1.below⟩
  have j0 : (a0.size : Int) ≤ 1024 := by omega
  cases hlong : longB x1 with
  | true =>
    rw [hlong] at HL
    clear hlong h1
    go_enter Try.func6, Try.ntmps6
    go_wp2_with fail
    refine (HL.out _ S1.out).mono ?_
    rintro e w1 ⟨rfl, rfl⟩
    go_wp2_with fail
    refine (alive_any _).mono ?_
    rintro e w1 ⟨rfl, f1⟩
    go_wp2_with fail
    go_ret
    exact ⟨rfl, f1.below⟩
  | false =>
    obtain ⟨k1, k2, k3⟩ := longB_no hlong
    rw [hlong] at HL
    have j1 : (x1.length : Int) ≤ 100 := by omega
    have hpg : ∀ W, Calls Try.prog 24 #[.string a0, .string a0, .int .u8 0, .int .u8 (c.toNat : Int)] W fun e w' => e = .returned (.tuple #[.string (pgS 1024 c a0), .string (pgS 1024 c a0)]) ∧ Fr [] W w' := fun W => pages_any a0 a0 0 c W (by decide)
    have sA := pgS_size 1024 c a0
    generalize pgS 1024 c a0 = A at *
    have hpA : pageB A.size = true := by rw [sA]; decide
    have hA := fun W (h : SlOf Md.enc 2 W a1 x1) => apply_any A a1 c1 x1 W h (by omega) (by omega) (by omega)
    cases hall : allB 1024 x1 with
    | false =>
      obtain ⟨e1, e2⟩ := app_bad (t := A) (l := x1) (by rw [sA, show ((1024 : Nat) : Int) = 1024 from rfl, hall]; simp)
      have hA' : ∀ W, SlOf Md.enc 2 W a1 x1 → Calls Try.prog 14 #[.string A, .slice a1 x1.length c1] W fun e w' => e = .returned (.tuple #[.string ByteArray.empty, .int .i64 2]) ∧ Fr [] W w' := fun W h => by
        have := hA W h; rw [e1, e2] at this; exact this
      have H := Lib.hid (And.intro hpg (And.intro hA' hall))
      clear hpg hA hA' hall e1 e2 sA hpA hlong k1 k2 k3 h1
      go_enter Try.func6, Try.ntmps6
      go_wp2_with fail
      refine (HL.out _ S1.out).mono ?_
      rintro e w1 ⟨rfl, rfl⟩
      go_wp2_with fail
      refine (H.out.1 _).mono ?_
      rintro e w1 ⟨rfl, f1⟩
      have H1 := Lib.hid (And.intro (S1.out.to f1) f1)
      clear f1
      go_wp2_with fail
      refine (H.out.2.1 _ H1.out.1).mono ?_
      rintro e w2 ⟨rfl, f2⟩
      have H2 := Lib.hid (And.intro (H1.out.1.to f2) (H1.out.2.trans f2))
      clear f2
      go_wp2_with fail
      go_loopw [13] (fun i wr => ∃ k : Nat, k ≤ x1.length ∧ i = .int .i64 k ∧ allB 1024 (x1.take k) = true ∧ SlOf Md.enc 2 wr a1 x1 ∧ Fr [] w wr) (fun i _ => x1.length - (intOf i).toNat)
      case atStart => exact ⟨0, Nat.zero_le _, rfl, rfl, H2.out.1, H2.out.2⟩
      case round =>
        obtain ⟨k, hk, rfl, hat, hS, hF⟩ := hrel
        by_cases hlt : k < x1.length
        · obtain ⟨m, hm⟩ : ∃ m, x1[k]? = some m := ⟨x1[k], List.getElem?_eq_getElem hlt⟩
          obtain ⟨b, o, rfl, hbl, hcell⟩ := hS (by intro h; rw [h] at hlt; simp at hlt)
          have HM := Lib.hid (And.intro (hok.out m (List.mem_of_getElem? hm)) (And.intro hm hat))
          obtain ⟨at_, tx⟩ := m
          have k0 := hcell k _ hm 0 (.int .i64 at_) rfl
          have k1 := hcell k _ hm 1 (.string tx) rfl
          simp only [Nat.add_zero] at k0 k1
          rw [← Nat.add_assoc] at k1
          have hki : (k : Int) < (x1.length : Int) := by omega
          have HS := Lib.hid (And.intro hS hF)
          clear hcell hm hS hF hat
          go_wp2_with fail
          refine (may_any 1024 ⟨at_, tx⟩ _ (by have := HM.out.1.2; simp only at this ⊢; omega)).mono ?_
          rintro e w5 ⟨rfl, f5⟩
          have F5 := Lib.hid (And.intro (HS.out.1.to f5) (HS.out.2.trans f5))
          clear f5
          cases hmay : mayB 1024 ⟨at_, tx⟩ with
          | true =>
            have HMY := Lib.hid hmay
            clear hmay
            go_wp2_with fail
            go_roundw
            case rel => exact ⟨k + 1, by omega, by go_num, by rw [allB_take 1024 x1 k _ HM.out.2.1, HM.out.2.2, HMY.out]; rfl, F5.out.1, F5.out.2⟩
            case measure => simp [intOf]; omega
          | false =>
            clear hmay
            go_wp2_with fail
            refine (alive_any _).mono ?_
            rintro e w6 ⟨rfl, f6⟩
            go_wp2_with fail
            go_ret
            exact ⟨rfl, (F5.out.2.trans f6).below⟩
        · exfalso
          have hke : k = x1.length := by omega
          subst hke
          rw [List.take_of_length_le (Nat.le_refl _), H.out.2.2] at hat
          cases hat
    | true =>
      obtain ⟨e1, e2⟩ := app_ok (t := A) (l := x1) (by rw [hpA, sA, show ((1024 : Nat) : Int) = 1024 from rfl, hall]; rfl)
      have hAl : A.data.toList.length = 1024 := by simp [sA]
      obtain ⟨B, hB⟩ : ∃ B, appS A x1 = B := ⟨_, rfl⟩
      have hBL : B.data.toList = applyL A.data.toList x1 := by rw [← hB, e1]
      have sB : B.size = 1024 := by
        have := applyL_length A.data.toList x1 (by rw [hAl]; exact hall)
        rw [← hBL, hAl] at this
        simpa using this
      obtain ⟨k0, hk0⟩ : ∃ k0, at0 % 1024 = k0 := ⟨_, rfl⟩
      have hk1 : k0 < 1024 := by omega
      have hatk : (at0 : Int) % 1024 = (k0 : Int) := by omega
      obtain ⟨d0, hd0⟩ : ∃ d0, A.data.toList.getD k0 0 = d0 := ⟨_, rfl⟩
      have hBd : B.data.toList.getD k0 0 = lastB x1 k0 d0 := by
        rw [hBL, applyL_get x1 _ k0 0 (by rw [hAl]; exact hall) (by rw [hAl]; exact hk1), hd0]
      have hxA := text_at A k0 (by omega) d0 hd0
      have hxB := text_at B k0 (by omega) _ hBd
      have hA' : ∀ W, SlOf Md.enc 2 W a1 x1 → Calls Try.prog 14 #[.string A, .slice a1 x1.length c1] W fun e w' => e = .returned (.tuple #[.string B, .int .i64 0]) ∧ Fr [] W w' := fun W h => by
        have := hA W h; rw [hB, e2] at this; exact this
      have hW : ∀ W a c, SlOf Md.enc 2 W a [⟨0, A⟩] → Calls Try.prog 14 #[.string B, .slice a 1 c] W fun e w' => e = .returned (.tuple #[.string A, .int .i64 0]) ∧ Fr [] W w' := fun W a c h => by
        have := apply_any B a c [⟨0, A⟩] W h (by simp) (by simp [sizeN]; omega) (by omega)
        obtain ⟨q1, q2⟩ := whole_again A B (by rw [sB]; decide) (by omega) (by omega)
        rw [q1, q2] at this; exact this
      have H := Lib.hid (And.intro hpg (And.intro hA' (And.intro hall (And.intro hW (And.intro hxA hxB)))))
      have hsB : (B.size : Int) = 1024 := by omega
      have HSZ := Lib.hid (And.intro sA (And.intro hsB hk1))
      clear hpg hA hA' hall e1 e2 sA hpA hlong k1 k2 k3 h1 hAl hB hBL sB hk0 hd0 hBd hxA hxB hW hsB hk1
      go_enter Try.func6, Try.ntmps6
      go_wp2_with fail
      refine (HL.out _ S1.out).mono ?_
      rintro e w1 ⟨rfl, rfl⟩
      go_wp2_with fail
      refine (H.out.1 _).mono ?_
      rintro e w1 ⟨rfl, f1⟩
      have H1 := Lib.hid (And.intro (S1.out.to f1) f1)
      clear f1
      go_wp2_with fail
      refine (H.out.2.1 _ H1.out.1).mono ?_
      rintro e w2 ⟨rfl, f2⟩
      have H2 := Lib.hid (And.intro (H1.out.1.to f2) (H1.out.2.trans f2))
      clear f2
      go_wp2_with fail
      go_loopw [13] (fun i wr => ∃ k : Nat, k ≤ x1.length ∧ i = .int .i64 k ∧ SlOf Md.enc 2 wr a1 x1 ∧ Fr [] w wr) (fun i _ => x1.length - (intOf i).toNat)
      case atStart => exact ⟨0, Nat.zero_le _, rfl, H2.out.1, H2.out.2⟩
      case round =>
        obtain ⟨k, hk, rfl, hS, hF⟩ := hrel
        by_cases hlt : k < x1.length
        · obtain ⟨m, hm⟩ : ∃ m, x1[k]? = some m := ⟨x1[k], List.getElem?_eq_getElem hlt⟩
          obtain ⟨b, o, rfl, hbl, hcell⟩ := hS (by intro h; rw [h] at hlt; simp at hlt)
          have HM := Lib.hid (And.intro (hok.out m (List.mem_of_getElem? hm)) (allB_mem H.out.2.2.1 hm))
          obtain ⟨at_, tx⟩ := m
          have k0 := hcell k _ hm 0 (.int .i64 at_) rfl
          have k1 := hcell k _ hm 1 (.string tx) rfl
          simp only [Nat.add_zero] at k0 k1
          rw [← Nat.add_assoc] at k1
          have hki : (k : Int) < (x1.length : Int) := by omega
          have HS := Lib.hid (And.intro hS hF)
          clear hcell hm hS hF
          go_wp2_with fail
          refine (may_any 1024 ⟨at_, tx⟩ _ (by have := HM.out.1.2; simp only at this ⊢; omega)).mono ?_
          rintro e w5 ⟨rfl, f5⟩
          have F5 := Lib.hid (And.intro (HS.out.1.to f5) (HS.out.2.trans f5))
          clear f5
          rw [HM.out.2]
          go_wp2_with fail
          go_roundw
          case rel => exact ⟨k + 1, by omega, by go_num, F5.out.1, F5.out.2⟩
          case measure => simp [intOf]; omega
        · have HS := Lib.hid (And.intro hS hF)
          have hsB := HSZ.out.2.1
          have hxA := H.out.2.2.2.2.1
          clear hS hF
          go_wp2_with fail
          clear hsB hxA
          go_loopw [15, 16] (fun v i wr => ∃ (j : Nat) (b : UInt8), j ≤ x1.length ∧ i = .int .i64 j ∧ v = .int .u8 (b.toNat : Int) ∧ b = lastB (x1.take j) k0 d0 ∧ SlOf Md.enc 2 wr a1 x1 ∧ Fr [] w wr) (fun _ i _ => x1.length - (intOf i).toNat)
          case atStart => exact ⟨0, d0, Nat.zero_le _, rfl, rfl, rfl, HS.out.1, HS.out.2⟩
          case round =>
            obtain ⟨j, d, hj, rfl, rfl, hd, hS2, hF2⟩ := hrel
            have HD := Lib.hid hd
            clear hd
            by_cases hjl : j < x1.length
            · obtain ⟨m, hm⟩ : ∃ m, x1[j]? = some m := ⟨x1[j], List.getElem?_eq_getElem hjl⟩
              obtain ⟨b, o, rfl, hbl, hcell⟩ := hS2 (by intro h; rw [h] at hjl; simp at hjl)
              have hmay := allB_mem H.out.2.2.1 hm
              have hlast := lastB_take x1 j k0 d0 m hm
              obtain ⟨at_, tx⟩ := m
              obtain ⟨b0, b1, b2, b3, b4, b5⟩ := mayB_bounds hmay
              simp only at b0 b1 b2 b3
              obtain ⟨a, rfl⟩ := Int.eq_ofNat_of_zero_le b0
              have q0 := hcell j _ hm 0 (.int .i64 (a : Int)) rfl
              have q1 := hcell j _ hm 1 (.string tx) rfl
              simp only [Nat.add_zero] at q0 q1
              rw [← Nat.add_assoc] at q1
              rw [← HD.out] at hlast
              unfold stepB at hlast
              simp only [Int.toNat_natCast] at hlast
              have hji : (j : Int) < (x1.length : Int) := by omega
              have hj0 : 0 ≤ (j : Int) := by omega
              have ht1 : (tx.size : Int) ≤ 1024 := by omega
              have ha1 : (a : Int) ≤ 1024 := by omega
              have hkk : (k0 : Int) ≤ 1024 := by have := HSZ.out.2.2; omega
              have HSF := Lib.hid (And.intro hS2 hF2)
              by_cases hc1 : a ≤ k0
              · obtain ⟨e, he⟩ : ∃ e, k0 - a = e := ⟨_, rfl⟩
                have hsub : (k0 : Int) - (a : Int) = (e : Int) := by omega
                have hsubw : IntKind.i64.wrap ((k0 : Int) - (a : Int)) = (e : Int) := by rw [IntKind.wrap_i64]; omega
                have hge : decide ((a : Int) ≤ (k0 : Int)) = true := decide_eq_true (by omega)
                have hgei : (a : Int) ≤ (k0 : Int) := by omega
                by_cases hc2 : e < tx.size
                · obtain ⟨nb, hnb⟩ : ∃ nb, tx.data.toList.getD e 0 = nb := ⟨_, rfl⟩
                  have hnd : lastB (x1.take (j + 1)) k0 d0 = nb := by
                    rw [hlast, if_pos ⟨hc1, by rw [he]; exact hc2⟩, he, ← hnb, List.getD_eq_getElem?_getD, List.getD_eq_getElem?_getD, List.getElem?_eq_getElem (show e < tx.data.toList.length by simpa using hc2)]
                    rfl
                  have hix := text_at tx e hc2 nb hnb
                  have hlt2 : (e : Int) < (tx.size : Int) := by omega
                  have HND := Lib.hid (And.intro hnd (And.intro hix (And.intro hsub hsubw)))
                  clear hcell hm hmay hlast hS2 hF2 he hnb hnd hix hc1 hc2 hsub hsubw b0 b1 b2 b3
                  go_wp2_with fail
                  obtain ⟨_, hix, hsub, hsubw⟩ := HND.out
                  go_quiet (fail)
                  have HF3 := Lib.hid (HSF.out.2.trans (Fr.drewN [] wr nq))
                  have HS3 := Lib.hid (HSF.out.1.to (Fr.drewN [] wr nq))
                  have r0 : (wr.drewN nq).cell? ⟨b, o + j * 2, none⟩ = some (.int .i64 (a : Int)) := q0
                  have r1 : (wr.drewN nq).cell? ⟨b, o + j * 2 + 1, none⟩ = some (.string tx) := q1
                  clear q0 q1
                  generalize wr.drewN nq = W4 at *
                  go_wp2_with fail
                  go_quiet (fail)
                  clear hix hsub hsubw
                  have HF4 := Lib.hid (HF3.out.trans (Fr.drewN [] W4 nq))
                  have HS4 := Lib.hid (HS3.out.to (Fr.drewN [] W4 nq))
                  generalize W4.drewN nq = W5 at *
                  go_wp2_with fail
                  go_roundw
                  case rel => exact ⟨j + 1, nb, by omega, by go_num, rfl, HND.out.1.symm, HS4.out, HF4.out⟩
                  case measure => simp [intOf]; omega
                · have hnd : lastB (x1.take (j + 1)) k0 d0 = d := by rw [hlast, if_neg (by omega)]
                  have hlt2 : (tx.size : Int) ≤ (e : Int) := by omega
                  have hltb : decide ((e : Int) < (tx.size : Int)) = false := decide_eq_false (by omega)
                  have HND := Lib.hid (And.intro hnd (And.intro hsub hsubw))
                  clear hcell hm hmay hlast hS2 hF2 he hnd hc1 hc2 hsub hsubw b0 b1 b2 b3
                  go_wp2_with fail
                  obtain ⟨_, hsub, hsubw⟩ := HND.out
                  go_quiet (fail)
                  clear hsub hsubw
                  have HF3 := Lib.hid (HSF.out.2.trans (Fr.drewN [] wr nq))
                  have HS3 := Lib.hid (HSF.out.1.to (Fr.drewN [] wr nq))
                  generalize wr.drewN nq = W4 at *
                  go_wp2_with fail
                  go_roundw
                  case rel => exact ⟨j + 1, d, by omega, by go_num, rfl, HND.out.1.symm, HS3.out, HF3.out⟩
                  case measure => simp [intOf]; omega
              · have hnd : lastB (x1.take (j + 1)) k0 d0 = d := by rw [hlast, if_neg (by omega)]
                have hge : decide ((a : Int) ≤ (k0 : Int)) = false := decide_eq_false (by omega)
                have hgeN : decide (a ≤ k0) = false := decide_eq_false hc1
                have hgeM : k0 < a := by omega
                have hgei : (k0 : Int) < (a : Int) := by omega
                have HND := Lib.hid hnd
                clear hcell hm hmay hlast hS2 hF2 hnd hc1 b0 b1 b2 b3
                go_wp2_with fail
                go_quiet (fail)
                have HF3 := Lib.hid (HSF.out.2.trans (Fr.drewN [] wr nq))
                have HS3 := Lib.hid (HSF.out.1.to (Fr.drewN [] wr nq))
                generalize wr.drewN nq = W4 at *
                go_wp2_with fail
                go_roundw
                case rel => exact ⟨j + 1, d, by omega, by go_num, rfl, HND.out.symm, HS3.out, HF3.out⟩
                case measure => simp [intOf]; omega
            · have hje : j = x1.length := by omega
              subst hje
              have hdd := HD.out
              rw [List.take_of_length_le (Nat.le_refl _)] at hdd
              have hxB := H.out.2.2.2.2.2
              rw [← hdd] at hxB
              have HW := Lib.hid (slOf_cells (l := [⟨0, A⟩]) md_len (new_of wr (.cells #[.int .i64 0, .string A] 34)) rfl : SlOf Md.enc 2 _ _ [⟨0, A⟩])
              have HSF := Lib.hid (And.intro hS2 hF2)
              have HXB := Lib.hid hxB
              clear hdd hS2 hF2 hxB
              go_wp2_with fail
              refine (H.out.2.2.2.1 _ _ _ HW.out).mono ?_
              rintro e w6 ⟨rfl, f6⟩
              have F6 := Lib.hid (HSF.out.2.trans ((Fr.alloc [] wr _).trans f6))
              clear f6
              have hxB := HXB.out
              go_wp2_with fail
              refine (alive_any _).mono ?_
              rintro e w7 ⟨rfl, f7⟩
              go_wp2_with fail
              go_ret
              exact ⟨rfl, (F6.out.trans f7).below⟩
end Go.Proofs.Ytoicdepkakgedaa
