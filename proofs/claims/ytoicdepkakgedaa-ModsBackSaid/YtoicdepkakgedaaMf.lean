/- The document's Decode. -/
import Derived.Test.YtoicdepkakgedaaMe
import Derived.BigRegion
namespace Go.Proofs.Ytoicdepkakgedaa
open Go.RowKit
set_option linter.unusedVariables false
set_option linter.unusedSimpArgs false

theorem byte_at (s : ByteArray) (j k m : Nat) (h : j + k = m) (hm : m < s.size) : ∃ b : Nat, b < 256 ∧ (s[m]'hm).toNat = b ∧ numL (s.data.toList.drop j) / 256 ^ k % 256 = b := by
  refine ⟨(s[m]'hm).toNat, (s[m]'hm).toNat_lt, rfl, ?_⟩
  subst h
  rw [numL_drop, Nat.div_div_eq_div_mul, ← Nat.pow_add, pow256]
  have := numL_get s.data.toList (j + k) (by simpa using hm)
  rw [← this]; rfl
theorem rest_data (s : ByteArray) (j : Nat) : (s.extract j s.size).data.toList = s.data.toList.drop j := Lib.extract_to_end s j

/-- The bytes of the head of what stands from j on. -/
theorem head_bytes (s : ByteArray) (j : Nat) (h : j + 4 ≤ s.size) : ∃ b0 b1 b2 b3 : Nat, b0 < 256 ∧ b1 < 256 ∧ b2 < 256 ∧ b3 < 256 ∧
    (s[j]'(by omega)).toNat = b0 ∧ (s[j + 1]'(by omega)).toNat = b1 ∧ (s[j + 2]'(by omega)).toNat = b2 ∧ (s[j + 3]'(by omega)).toNat = b3 ∧
    b0 + 256 * b1 = numL (s.extract j s.size).data.toList % 65536 ∧ b2 + 256 * b3 = recN (s.extract j s.size).data.toList := by
  obtain ⟨b0, h0, e0, f0⟩ := byte_at s j 0 j (by omega) (by omega)
  obtain ⟨b1, h1, e1, f1⟩ := byte_at s j 1 (j + 1) (by omega) (by omega)
  obtain ⟨b2, h2, e2, f2⟩ := byte_at s j 2 (j + 2) (by omega) (by omega)
  obtain ⟨b3, h3, e3, f3⟩ := byte_at s j 3 (j + 3) (by omega) (by omega)
  refine ⟨b0, b1, b2, b3, h0, h1, h2, h3, e0, e1, e2, e3, ?_, ?_⟩
  · rw [rest_data]
    generalize numL (s.data.toList.drop j) = z at *
    simp only [Nat.reducePow] at f0 f1 f2 f3
    omega
  · unfold recN
    rw [rest_data]
    generalize numL (s.data.toList.drop j) = z at *
    simp only [Nat.reducePow] at f0 f1 f2 f3
    omega
theorem extract_sub (s : ByteArray) (j a b : Nat) (hb : j + b ≤ s.size) : (s.extract j s.size).extract a b = s.extract (j + a) (j + b) := by
  apply ByteArray.ext; apply Array.ext'
  rw [Lib.extract_data, rest_data, Lib.extract_data, List.drop_drop]
  congr 1
  omega
theorem extract_to (s : ByteArray) (j n : Nat) (h : (s.extract j s.size).size = s.size - j) : (s.extract j s.size).extract (4 + n) (s.size - j) = s.extract (j + (4 + n)) s.size := by
  rw [← h]
  apply ByteArray.ext; apply Array.ext'
  rw [Lib.extract_to_end, rest_data, rest_data, List.drop_drop]
theorem extract_end (s : ByteArray) (j a : Nat) : (s.extract j s.size).extract a (s.extract j s.size).size = s.extract (j + a) s.size := by
  apply ByteArray.ext; apply Array.ext'
  rw [Lib.extract_to_end, rest_data, rest_data, List.drop_drop]

set_option maxRecDepth 2000000 in
set_option maxHeartbeats 1600000 in
theorem rdecode_any (p : Int) (s : ByteArray) (w : World) (hs : s.size ≤ 1000000) : Calls Try.prog 26 #[.int .i64 p, .string s] w (DecPost p s w) := by
  cases hp : pageB p with
  | false =>
    obtain ⟨e1, e2⟩ := dec_bad (s := s) hp
    have HE := Lib.hid (And.intro hp (And.intro e1 e2))
    clear hp e1 e2
    go_enter Try.func26, Try.ntmps26
    go_wp2_with fail
    refine (rpage_any p _).mono ?_
    rintro e w1 ⟨rfl, rfl⟩
    rw [HE.out.1]
    go_wp2_with fail
    go_ret2
    unfold DecPost
    rw [HE.out.2.1, HE.out.2.2]
    exact ⟨_, rfl, World.ownsRow_nil _ _ _ _, Fr.refl _ _⟩
  | true =>
    have HP := Lib.hid hp
    have hsi : (s.size : Int) ≤ 1000000 := by omega
    clear hp
    go_enter Try.func26, Try.ntmps26
    go_wp2_with fail
    refine (rpage_any p _).mono ?_
    rintro e w1 ⟨rfl, rfl⟩
    rw [HP.out]
    go_wp2_with fail
    go_loopw [6, 7] (fun v u wr => ∃ (j : Nat) (acc : List Md) (vv : Value), u = .int .i64 j ∧ vv = v ∧ j ≤ s.size ∧ acc.length ≤ j ∧ decL p s.data.toList = (decL p (s.extract j s.size).data.toList).map (acc ++ ·) ∧ wr.ownsRow w.heap.size 34 2 vv acc.length (acc.flatMap Md.enc) ∧ Below w.heap.size w wr) (fun _ u _ => s.size - (intOf u).toNat)
    case atStart => exact ⟨0, [], _, rfl, rfl, by omega, by simp, by rw [rest_data]; simp, World.ownsRow_nil _ _ _ _, Below.refl _ _⟩
    case round =>
      obtain ⟨j, acc, vv, rfl, rfl, hj, hlen, hdec, hS, hB⟩ := hrel
      have hBs := hB.size
      have HD := Lib.hid (And.intro hdec (And.intro hS hB))
      have hji : (j : Int) ≤ (s.size : Int) := by omega
      clear hdec hS hB
      rcases Nat.lt_or_ge j s.size with h0 | h0
      · have h0i : (j : Int) < (s.size : Int) := by omega
        have hxs : (s.extract j s.size).size = s.size - j := by simp
        rcases Nat.lt_or_ge s.size (j + 4) with h4 | h4
        · have h4i : (s.size : Int) - (j : Int) < 4 := by omega
          have hd := HD.out.1
          rw [dec_short p (s.extract j s.size) (by rw [hxs]; omega) (by rw [hxs]; omega)] at hd
          have HE := Lib.hid (dec_no HP.out hd)
          clear hd h4 hxs
          go_wp2_with fail
          go_ret2
          unfold DecPost
          rw [HE.out.1, HE.out.2]
          exact ⟨_, rfl, World.ownsRow_nil _ _ _ _, Fr.of_below HD.out.2.2⟩
        · obtain ⟨b0, b1, b2, b3, l0, l1, l2, l3, e0, e1, e2, e3, ha, hn⟩ := head_bytes s j h4
          obtain ⟨a, hae⟩ : ∃ a, a = b0 + 256 * b1 := ⟨_, rfl⟩
          obtain ⟨n, hne⟩ : ∃ n, n = b2 + 256 * b3 := ⟨_, rfl⟩
          rw [← hae] at ha
          rw [← hne] at hn
          have h4i : 4 ≤ (s.size : Int) - (j : Int) := by omega
          have hst := dec_step p (s.extract j s.size) a n ha hn (by rw [hxs]; omega)
          have hct := dec_cut p (s.extract j s.size) (by rw [hxs]; omega)
          rw [← hn, hxs] at hct
          rw [hxs] at hst
          have HS := Lib.hid (And.intro hst (And.intro hct hxs))
          obtain ⟨j1, hj1⟩ : ∃ j1, j + 1 = j1 := ⟨_, rfl⟩
          obtain ⟨j2, hj2⟩ : ∃ j2, j + 2 = j2 := ⟨_, rfl⟩
          obtain ⟨j3, hj3⟩ : ∃ j3, j + 3 = j3 := ⟨_, rfl⟩
          obtain ⟨j4, hj4⟩ : ∃ j4, j + 4 = j4 := ⟨_, rfl⟩
          have x0 : ∀ W, (Instr.index 9 (.string s) (.int .i64 (j : Int))).run Try.prog W = .ok (.int .u8 (b0 : Int)) W := fun W => by
            have := run_index_text (P := Try.prog) W 9 s .i64 j Try.underlying9 (by omega); rw [e0] at this; exact this
          have x1 : ∀ W, (Instr.index 9 (.string s) (.int .i64 (j1 : Int))).run Try.prog W = .ok (.int .u8 (b1 : Int)) W := fun W => by
            subst hj1; have := run_index_text (P := Try.prog) W 9 s .i64 (j + 1) Try.underlying9 (by omega); rw [e1] at this; exact this
          have x2 : ∀ W, (Instr.index 9 (.string s) (.int .i64 (j2 : Int))).run Try.prog W = .ok (.int .u8 (b2 : Int)) W := fun W => by
            subst hj2; have := run_index_text (P := Try.prog) W 9 s .i64 (j + 2) Try.underlying9 (by omega); rw [e2] at this; exact this
          have x3 : ∀ W, (Instr.index 9 (.string s) (.int .i64 (j3 : Int))).run Try.prog W = .ok (.int .u8 (b3 : Int)) W := fun W => by
            subst hj3; have := run_index_text (P := Try.prog) W 9 s .i64 (j + 3) Try.underlying9 (by omega); rw [e3] at this; exact this
          have s1 : IntKind.i64.wrap ((j : Int) + 1) = (j1 : Int) := by rw [IntKind.wrap_i64]; omega
          have s2 : IntKind.i64.wrap ((j : Int) + 2) = (j2 : Int) := by rw [IntKind.wrap_i64]; omega
          have s3 : IntKind.i64.wrap ((j : Int) + 3) = (j3 : Int) := by rw [IntKind.wrap_i64]; omega
          have s4 : IntKind.i64.wrap ((j : Int) + 4) = (j4 : Int) := by rw [IntKind.wrap_i64]; omega
          have c0 : IntKind.i64.wrap (b0 : Int) = (b0 : Int) := by rw [IntKind.wrap_i64]; omega
          have c1 : IntKind.i64.wrap (b1 : Int) = (b1 : Int) := by rw [IntKind.wrap_i64]; omega
          have c2 : IntKind.i64.wrap (b2 : Int) = (b2 : Int) := by rw [IntKind.wrap_i64]; omega
          have c3 : IntKind.i64.wrap (b3 : Int) = (b3 : Int) := by rw [IntKind.wrap_i64]; omega
          obtain ⟨m1, hm1⟩ : ∃ m1, 256 * b1 = m1 := ⟨_, rfl⟩
          obtain ⟨m3, hm3⟩ : ∃ m3, 256 * b3 = m3 := ⟨_, rfl⟩
          have t1 : IntKind.i64.wrap (256 * (b1 : Int)) = (m1 : Int) := by rw [IntKind.wrap_i64]; omega
          have t3 : IntKind.i64.wrap (256 * (b3 : Int)) = (m3 : Int) := by rw [IntKind.wrap_i64]; omega
          have ta : IntKind.i64.wrap ((b0 : Int) + (m1 : Int)) = (a : Int) := by rw [IntKind.wrap_i64]; omega
          have tn : IntKind.i64.wrap ((b2 : Int) + (m3 : Int)) = (n : Int) := by rw [IntKind.wrap_i64]; omega
          have nn : (n : Int) ≤ 70000 := by omega
          have na : (a : Int) ≤ 70000 := by omega
          have HJ := Lib.hid (And.intro hj1 (And.intro hj2 (And.intro hj3 hj4)))
          clear ha hn hae hne hst hct hxs e0 e1 e2 e3 hj1 hj2 hj3 hj4 hm1 hm3 l0 l1 l2 l3
          have HA := Lib.hid (And.intro x0 (And.intro x1 (And.intro s1 (And.intro s4 (And.intro c0 (And.intro c1 (And.intro t1 ta)))))))
          have HA2 := Lib.hid (And.intro x2 (And.intro x3 (And.intro s2 (And.intro s3 (And.intro c2 (And.intro c3 (And.intro t3 tn)))))))
          clear x0 x1 s1 s4 c0 c1 t1 ta x2 x3 s2 s3 c2 c3 t3 tn
          go_wp2_with fail
          obtain ⟨x2, x3, s2, s3, c2, c3, t3, tn⟩ := HA2.out
          go_quiet (fail)
          clear x2 x3 s2 s3 c2 c3 t3 tn
          have HD2 := Lib.hid (And.intro (ownsRow_to HD.out.2.1 (Fr.drewN [] wr nq) (by simp)) ((Fr.drewN [] wr nq).out HD.out.2.2 (by simp)))
          generalize wr.drewN nq = W at *
          rcases Nat.lt_or_ge s.size (j + 4 + n) with h5 | h5
          · have hd := HD.out.1
            rw [HS.out.2.1 (by omega)] at hd
            have HE := Lib.hid (dec_no HP.out hd)
            have h5i : (s.size : Int) - (j : Int) - 4 < (n : Int) := by omega
            clear hd h5
            go_wp2_with fail
            go_ret2
            unfold DecPost
            rw [HE.out.1, HE.out.2]
            exact ⟨_, rfl, World.ownsRow_nil _ _ _ _, Fr.of_below HD2.out.2⟩
          · have h5i : (n : Int) ≤ (s.size : Int) - (j : Int) - 4 := by omega
            obtain ⟨k, hk⟩ : ∃ k, j4 + n = k := ⟨_, rfl⟩
            have s5 : IntKind.i64.wrap ((j4 : Int) + (n : Int)) = (k : Int) := by rw [IntKind.wrap_i64]; have := HJ.out.2.2.2; omega
            have hks : k ≤ s.size := by have := HJ.out.2.2.2; omega
            have hjk : j4 ≤ k := by omega
            have hsl : ∀ W, (Instr.slice 9 (.string s) (some (.int .i64 (j4 : Int))) (some (.int .i64 (k : Int))) none).run Try.prog W = .ok (.string (s.extract j4 k)) W := fun W => by
              have := run_slice_string (P := Try.prog) (w := W) 9 s .i64 .i64 (j4 : Int) (k : Int) Try.underlying9 (by omega) (by omega) (by omega)
              simpa using this
            have HS5 := Lib.hid (And.intro s5 hsl)
            have HK := Lib.hid hk
            have hks' := hks
            clear hk hks hjk s5 hsl
            go_wp2_with fail
            obtain ⟨x0, x1, s1, s4, c0, c1, t1, ta⟩ := HA.out
            obtain ⟨s5, hsl⟩ := HS5.out
            go_region
            clear x0 x1 s1 s4 c0 c1 t1 ta s5 hsl
            have hx : s.extract j4 k = (s.extract j s.size).extract 4 (4 + n) := by rw [extract_sub _ _ _ _ (by omega), ← Nat.add_assoc, HJ.out.2.2.2, HK.out]
            have hms : (s.extract j4 k).size ≤ 1000000 := by simp; omega
            have hst := HS.out.1 (by omega)
            rw [← hx, extract_to s j n HS.out.2.2, ← Nat.add_assoc, HJ.out.2.2.2, HK.out] at hst
            have HST := Lib.hid (And.intro hms hst)
            obtain ⟨tx, htx⟩ : ∃ tx, s.extract j4 k = tx := ⟨_, rfl⟩
            rw [htx] at HST ⊢
            have hnew := Lib.hid (And.intro (new_of W (.cells #[.int .i64 (a : Int), .string tx] 34)) (Fr.alloc [] W (.cells #[.int .i64 (a : Int), .string tx] 34)))
            clear hx hms hst htx
            go_wp2_with fail
            refine (rmay_any p ⟨(a : Int), tx⟩ _ (by have := HST.out.1; simp only; omega)).mono ?_
            rintro e w4 ⟨rfl, f4⟩
            replace f4 := (Fr.drew (Fr.refl [] (W.alloc (.cells #[.int .i64 (a : Int), .string tx] 34)))).trans f4
            have hb4 := Lib.hid (f4.blk hnew.out.1 (by simp))
            have hW4 := Lib.hid (f4.out (hnew.out.2.out HD2.out.2 (by simp)) (by simp))
            have hS4 := Lib.hid (ownsRow_to (ownsRow_to HD2.out.1 hnew.out.2 (by simp)) f4 (by simp))
            clear f4
            cases hmay : mayB p ⟨(a : Int), tx⟩ with
            | false =>
              have hd := HD.out.1
              rw [HST.out.2, hmay] at hd
              have HE := Lib.hid (dec_no HP.out hd)
              clear hmay hd
              go_wp2_with fail
              go_ret2
              unfold DecPost
              rw [HE.out.1, HE.out.2]
              exact ⟨_, rfl, World.ownsRow_nil _ _ _ _, Fr.of_below hW4.out⟩
            | true =>
              have hd := HD.out.1
              rw [HST.out.2, hmay] at hd
              have HE := Lib.hid hd
              clear hmay hd
              have c0 := cell_of hb4.out 0
              have c1 := cell_of hb4.out 1
              have hsz4 := hW4.out.size
              have hsum : (j : Int) + 4 + (n : Int) ≤ 1000000 := by omega
              go_wp2_with (at_builtin; go_must (refine wpList_push w.heap.size w w4 rfl (.tmp 65) (.tmp 67) 22 rfl 34 2 24 elemM vv acc.length _ rfl hS4 hW4 hsz4 #[.int .i64 (a : Int), .string tx] 1 1 rfl rfl rfl (by omega) (by omega) (by omega) ?_); intro g cap w5 HQ)
              go_roundw
              case rel =>
                refine ⟨k, acc ++ [⟨(a : Int), tx⟩], _, by have := HJ.out.2.2.2; have := HK.out; congr 1; omega, rfl, hks', by have := HJ.out.2.2.2; have := HK.out; simp; omega, ?_, ?_, HQ.out.below⟩
                · have := HE.out
                  rw [this]
                  cases decL p (s.extract k s.size).data.toList <;> simp
                · have := HQ.out.own
                  rw [flatMap_snoc, List.length_append]
                  exact this
              case measure => have := HJ.out.2.2.2; have := HK.out; simp [intOf]; omega
      · have hje : j = s.size := by omega
        subst hje
        have hd := HD.out.1
        rw [rest_data, List.drop_of_length_le (by simp), decL_nil] at hd
        obtain ⟨e1, e2⟩ := dec_ok HP.out (l := acc) (by simpa using hd)
        have HE := Lib.hid (And.intro e1 e2)
        clear hd e1 e2
        go_wp2_with fail
        go_ret2
        unfold DecPost
        rw [HE.out.1, HE.out.2]
        exact ⟨_, rfl, HD.out.2.1, Fr.of_below HD.out.2.2⟩
end Go.Proofs.Ytoicdepkakgedaa
