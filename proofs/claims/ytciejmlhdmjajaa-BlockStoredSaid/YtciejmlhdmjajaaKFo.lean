/- What stored blocks hold: plain. BlockStored: stored blocks have the bytes as they are, behind four of each block, from a whole byte on. -/
import Derived.Test.YtciejmlhdmjajaaKFi
import Derived.Test.YtciejmlhdmjajaaKFm
namespace Go.Proofs.Ytciejmlhdmjajaa
set_option linter.unusedVariables false
set_option linter.unusedSimpArgs false

/-- Bits of a number. -/
def fld (N a k : Nat) : Nat := N / 2 ^ a % 2 ^ k
theorem fld_mod (N m a k : Nat) (h : a + k ≤ m) : fld (N % 2 ^ m) a k = fld N a k := by
  unfold fld
  apply Nat.eq_of_testBit_eq
  intro i
  rw [Nat.testBit_mod_two_pow, Nat.testBit_mod_two_pow, Nat.testBit_div_two_pow, Nat.testBit_div_two_pow, Nat.testBit_mod_two_pow]
  by_cases hi : i < k
  · have : a + i < m := by omega
    simp [hi, show i + a < m by omega]
  · simp [hi]
/-- B begins as A. -/
def Ext (A B : Nat × Nat) : Prop := A.2 ≤ B.2 ∧ B.1 % 2 ^ A.2 = A.1
def OkD (D : Nat × Nat) : Prop := D.1 < 2 ^ D.2
theorem Ext.refl {A : Nat × Nat} (h : OkD A) : Ext A A := ⟨Nat.le_refl _, Nat.mod_eq_of_lt h⟩
theorem Ext.trans {A B C : Nat × Nat} (h : Ext A B) (k : Ext B C) : Ext A C := ⟨Nat.le_trans h.1 k.1, by rw [← h.2, ← k.2, Nat.mod_mod_of_dvd _ (Nat.pow_dvd_pow 2 h.1)]⟩
theorem Ext.put {A : Nat × Nat} (h : OkD A) (p : Nat × Nat) : Ext A (putP A p) := ⟨by simp [putP], by
  simp only [putP]
  rw [Nat.add_mul_mod_self_right, Nat.mod_eq_of_lt h]⟩
theorem OkD.put {A p : Nat × Nat} (h : OkD A) (hp : p.1 < 2 ^ p.2) : OkD (putP A p) := new_lt A.1 p.1 A.2 p.2 h hp
theorem Ext.fld {A B : Nat × Nat} (h : Ext A B) (a k : Nat) (hk : a + k ≤ A.2) : fld B.1 a k = fld A.1 a k := by rw [← h.2, fld_mod _ _ _ _ hk]
theorem fld_put {A p : Nat × Nat} (h : OkD A) (hp : p.1 < 2 ^ p.2) : fld (putP A p).1 A.2 p.2 = p.1 := by
  unfold Go.Proofs.Ytciejmlhdmjajaa.fld
  simp only [putP]
  rw [Nat.add_mul_div_right _ _ (Nat.pow_pos (by decide)), Nat.div_eq_of_lt h, Nat.zero_add, Nat.mod_eq_of_lt hp]
/-- One stored block behind D. -/
theorem oneD_facts {D : Nat × Nat} (h : OkD D) (s : ByteArray) (last : Bool) (hs : s.size ≤ 65535) (at_ : Nat) (hat : at_ = (D.2 + 3 + 7) / 8) :
    OkD (oneD D s last) ∧ Ext D (oneD D s last) ∧ (oneD D s last).2 = 8 * (at_ + 4 + s.size) ∧ fld (oneD D s last).1 (8 * at_) 16 = s.size ∧ fld (oneD D s last).1 (8 * at_ + 16) 16 = 65535 - s.size ∧ fld (oneD D s last).1 (8 * (at_ + 4)) (8 * s.size) = num s := by
  unfold oneD
  have o1 : OkD (putP D (last.toNat, 3)) := h.put (by cases last <;> simp)
  have o2 : OkD (padP (putP D (last.toNat, 3))) := o1.put (Nat.pow_pos (by decide))
  have e2 : (padP (putP D (last.toNat, 3))).2 = 8 * at_ := by unfold padP pad putP; simp only; omega
  obtain ⟨E, hE⟩ : ∃ E, padP (putP D (last.toNat, 3)) = E := ⟨_, rfl⟩
  have x1 : Ext D E := by rw [← hE]; exact (Ext.put h _).trans (Ext.put o1 _)
  rw [hE] at o2 e2 ⊢
  have p16 : (65535 : Nat) < 2 ^ 16 := by decide
  have o3 : OkD (putP E (s.size, 16)) := o2.put (by simp only; omega)
  have o4 : OkD (putP (putP E (s.size, 16)) (65535 - s.size, 16)) := o3.put (by simp only; omega)
  have o5 : OkD (putP (putP (putP E (s.size, 16)) (65535 - s.size, 16)) (num s, 8 * s.size)) := o4.put (num_lt s)
  have f1 := fld_put (p := (s.size, 16)) o2 (by simp only; omega)
  have f2 := fld_put (p := (65535 - s.size, 16)) o3 (by simp only; omega)
  have f3 := fld_put (p := (num s, 8 * s.size)) o4 (num_lt s)
  have l3 : (putP E (s.size, 16)).2 = 8 * at_ + 16 := by simp only [putP]; omega
  have l4 : (putP (putP E (s.size, 16)) (65535 - s.size, 16)).2 = 8 * (at_ + 4) := by simp only [putP]; omega
  have l5 : (putP (putP (putP E (s.size, 16)) (65535 - s.size, 16)) (num s, 8 * s.size)).2 = 8 * (at_ + 4 + s.size) := by simp only [putP]; omega
  have k3 := Ext.put o3 (65535 - s.size, 16)
  have k4 := Ext.put o4 (num s, 8 * s.size)
  refine ⟨o5, ((x1.trans (Ext.put o2 _)).trans k3).trans k4, l5, ?_, ?_, ?_⟩
  · rw [(k3.trans k4).fld _ _ (by rw [l3]; omega), ← e2]; exact f1
  · rw [k4.fld _ _ (by rw [l4]; omega), ← l3]; exact f2
  · rw [← l4]; exact f3
theorem storedF_ext : ∀ (f : Nat) (last : Bool) (D : Nat × Nat) (r : ByteArray), OkD D → Ext D (storedF f last D r) ∧ OkD (storedF f last D r) := by
  intro f
  induction f with
  | zero => intro last D r h; exact ⟨Ext.refl h, h⟩
  | succ f ih =>
    intro last D r h
    unfold storedF
    split
    · rename_i hr
      have := oneD_facts h r last hr _ rfl
      exact ⟨this.2.1, this.1⟩
    · rename_i hr
      have := oneD_facts h (r.extract 0 65535) false (by rw [ByteArray.size_extract]; omega) _ rfl
      have h2 := ih last (oneD D (r.extract 0 65535) false) (r.extract 65535 r.size) this.1
      exact ⟨this.2.1.trans h2.1, h2.2⟩
theorem leb_size (N k : Nat) : (leb N k).size = k := size_leb N k
theorem leb_get (N k i : Nat) (h : i < (leb N k).size) : ((leb N k)[i]).toNat = fld N (8 * i) 8 := by
  have h1 : i < (lebL N k).length := by rw [length_lebL]; rw [size_leb] at h; exact h
  have h2 := numL_get (lebL N k) i h1
  rw [numL_lebL, show (256 : Nat) ^ k = 2 ^ (8 * k) by rw [pow256]] at h2
  have h3 : ((leb N k)[i]).toNat = ((lebL N k)[i]).toNat := rfl
  refine h3.trans (h2.trans ?_)
  have h4 := fld_mod N (8 * k) (8 * i) 8 (by rw [length_lebL] at h1; omega)
  unfold fld at h4 ⊢
  exact h4
theorem leb_two (N i : Nat) : fld N (8 * i) 8 + 256 * fld N (8 * (i + 1)) 8 = fld N (8 * i) 16 := by
  unfold fld
  rw [show 8 * (i + 1) = 8 * i + 8 by omega, Nat.pow_add, ← Nat.div_div_eq_div_mul]
  generalize N / 2 ^ (8 * i) = x
  omega
theorem leb_part (N k a b : Nat) (hb : b ≤ k) (s : ByteArray) (hs : s.size = b - a) (hab : a ≤ b) (h : fld N (8 * a) (8 * (b - a)) = num s) : (leb N k).extract a b = s := by
  apply num_inj
  · rw [ByteArray.size_extract, size_leb]; omega
  · rw [← h]
    have e : num ((leb N k).extract a b) = numL (((lebL N k).drop a).take (b - a)) := by
      unfold num
      rw [ByteArray.data_extract]
      congr 1
      show ((lebL N k).toArray.extract a b).toList = _
      rw [Array.toList_extract, List.extract_eq_take_drop]
    rw [e, numL_take, numL_drop, numL_lebL, pow256, pow256, pow256]
    have h4 := fld_mod N (8 * k) (8 * a) (8 * (b - a)) (by omega)
    unfold fld at h4 ⊢
    exact h4
end Go.Proofs.Ytciejmlhdmjajaa
namespace Go.Proofs.Ytciejmlhdmjajaa
open Go.RowKit
set_option linter.unusedVariables false
set_option linter.unusedSimpArgs false

theorem four_bytes (S : ByteArray) (N k a m : Nat) (hS : S = leb N k) (hin : a + 4 + m ≤ S.size) (hm : m ≤ 65535) (t1 : fld N (8 * a) 16 = m) (t2 : fld N (8 * a + 16) 16 = 65535 - m) :
    ∃ b0 b1 b2 b3 : Nat, b0 < 256 ∧ b1 < 256 ∧ b2 < 256 ∧ b3 < 256 ∧ b0 + 256 * b1 = m ∧ b2 + 256 * b3 = 65535 - m ∧
      (∀ x : World, (Instr.index 9 (.string S) (.int .i64 (a : Int))).run Try.prog x = .ok (.int .u8 (b0 : Int)) x) ∧
      (∀ x : World, (Instr.index 9 (.string S) (.int .i64 ((a : Int) + 1))).run Try.prog x = .ok (.int .u8 (b1 : Int)) x) ∧
      (∀ x : World, (Instr.index 9 (.string S) (.int .i64 ((a : Int) + 2))).run Try.prog x = .ok (.int .u8 (b2 : Int)) x) ∧
      (∀ x : World, (Instr.index 9 (.string S) (.int .i64 ((a : Int) + 3))).run Try.prog x = .ok (.int .u8 (b3 : Int)) x) := by
  subst hS
  have hb : ∀ i : Nat, fld N (8 * i) 8 < 256 := fun i => by unfold fld; omega
  have hx : ∀ (i : Nat) (z : Int), z = (i : Int) → i < (leb N k).size → ∀ x : World, (Instr.index 9 (.string (leb N k)) (.int .i64 z)).run Try.prog x = .ok (.int .u8 ((fld N (8 * i) 8 : Nat) : Int)) x := fun i z hz hi x => by
    subst hz
    have h := run_index_text (P := Try.prog) x 9 (leb N k) .i64 i Try.underlying9 hi
    rw [leb_get N k i hi] at h
    exact h
  refine ⟨fld N (8 * a) 8, fld N (8 * (a + 1)) 8, fld N (8 * (a + 2)) 8, fld N (8 * (a + 3)) 8, hb _, hb _, hb _, hb _, ?_, ?_, hx a _ rfl (by omega), hx (a + 1) _ (by omega) (by omega), hx (a + 2) _ (by omega) (by omega), hx (a + 3) _ (by omega) (by omega)⟩
  · rw [leb_two, t1]
  · rw [show a + 3 = a + 2 + 1 by omega, leb_two, show 8 * (a + 2) = 8 * a + 16 by omega, t2]
set_option maxRecDepth 100000 in
set_option maxHeartbeats 6400000 in
theorem blockStored_walk (w : World) (a0 : ByteArray) (w0 : a0.size ≤ maxLen) (a1 : Int) (w1 : (Lit.int .u16 a1).wf = true) (a2 : Int) (w2 : (Lit.int .u8 a2).wf = true) (last : Bool) :
    Calls Try.prog 7 #[.string a0, .int .u16 a1, .int .u8 a2, .bool last] w fun e w' => e = .returned (.bool true) ∧ Below w.heap.size w w' := by
  unfold maxLen at w0
  have h1 : 0 ≤ a1 ∧ a1 ≤ 65535 := by simp [Lit.wf, IntKind.min, IntKind.max, IntKind.signed, IntKind.bits] at w1; omega
  have h2 : 0 ≤ a2 ∧ a2 ≤ 255 := by simp [Lit.wf, IntKind.min, IntKind.max, IntKind.signed, IntKind.bits] at w2; omega
  obtain ⟨p, rfl⟩ : ∃ p : Nat, a1 = (p : Int) := ⟨a1.toNat, by omega⟩
  obtain ⟨q, rfl⟩ : ∃ q : Nat, a2 = (q : Int) := ⟨a2.toNat, by omega⟩
  have hp : (p : Int) ≤ 65535 := h1.2
  have hq : (q : Int) ≤ 255 := h2.2
  have HW := Lib.hid works13
  have hl1 : (a0.size : Int) ≤ 9223372036854775807 := by omega
  clear w1 w2 h1 h2
  by_cases hbig : 300 < a0.size
  · have hb1i : 300 < (a0.size : Int) := by omega
    clear hbig w0
    go_enter Try.func7, Try.ntmps7
    go_wp2_with fail
    refine (HW.out _).mono ?_
    rintro e w4 ⟨rfl, f4⟩
    have F4 := Lib.hid f4
    clear f4
    go_wp2_with fail
    go_ret
    exact ⟨rfl, F4.out.below⟩
  · have hb1i : (a0.size : Int) ≤ 300 := by omega
    clear hbig w0
    obtain ⟨k, hk⟩ : ∃ k : Nat, p % 300 = k := ⟨_, rfl⟩
    have hki : (p : Int) % 300 = (k : Int) := by omega
    have hk2 : (k : Int) ≤ 299 := by omega
    obtain ⟨n, hn⟩ : ∃ n : Nat, q % 20 = n := ⟨_, rfl⟩
    have hni : (q : Int) % 20 = (n : Int) := by omega
    have hn2 : (n : Int) ≤ 19 := by omega
    clear hk hn
    go_enter Try.func7, Try.ntmps7
    go_wp2_with fail
    go_loopw [9, 10] (fun v9 v10 wr => ∃ (s : ByteArray) (j : Nat), v9 = .string s ∧ (s.size : Int) ≤ 131400 ∧ v10 = .int .i64 (j : Int) ∧ j ≤ k ∧ Fr [] w wr) (fun _ v10 _ => k - (intOf v10).toNat)
    case atStart => exact ⟨ByteArray.empty, 0, rfl, by decide, rfl, by omega, Fr.refl _ _⟩
    case round =>
      obtain ⟨s, j, rfl, hsz, rfl, hj, hf⟩ := hrel
      have HF := Lib.hid hf
      clear hf
      by_cases hlt : j < k ∧ s.size < 131072
      · have hji : (j : Int) < (k : Int) := by omega
        have hsi : (s.size : Int) < 131072 := by omega
        clear hlt
        go_wp2_with fail
        exact ⟨⟨_, j + 1, rfl, by rw [ByteArray.size_append]; omega, by go_num, by omega, HF.out⟩, by simp [intOf]; omega⟩
      · have hfin : (¬ (j : Int) < (k : Int)) ∨ ((j : Int) < (k : Int) ∧ ¬ (s.size : Int) < 131072) := by omega
        clear hlt
        have hTz := storedF_size 17 last (0, n) s (by omega) (by omega)
        have hTe := storedF_ext 17 last (0, n) s (Nat.pow_pos (by decide))
        obtain ⟨T, hT⟩ : ∃ T, storedF 17 last (0, n) s = T := ⟨_, rfl⟩
        have hTb : blockF 0 [] s last (0, n) = T := by simp [blockF, hT]
        rw [hT] at hTz hTe
        simp only at hTz
        have HT := Lib.hid (And.intro hT (And.intro hTe hTb))
        clear hT hTb hTe
        have hq2 : storedN n s.size ≤ 42 + 2 * 40 + 8 * s.size := by
          unfold storedN
          have : (s.size - 1) / 65535 ≤ 2 := by omega
          generalize (s.size - 1) / 65535 = q at *
          omega
        rcases hfin with hfin | ⟨hfin1, hfin⟩
        all_goals (
          go_wp2_with fail
          refine (wnew_any 262144 wr (by omega)).mono ?_
          rintro e w5 ⟨rfl, hw5, f5⟩
          have HC := Lib.hid (wbits_ok wr.heap.size (.slice none 0 0) 0 0 262144 0 n w5 hw5 (by omega) (by omega) (by omega) (Nat.pow_pos (by decide)) (by unfold roomB; simp; omega))
          have F5 := Lib.hid (HF.out.trans f5)
          have HR := Lib.hid (HF.out.size)
          clear hw5
          go_wp2_with fail
          refine HC.out.mono ?_
          rintro e w6 ⟨rfl, v6, hw6, hnew6, f6⟩
          rw [Nat.zero_add, Nat.zero_mul, Nat.zero_add] at hw6
          have hn6 : ∀ i, i ∈ wfp wr.heap.size v6 → w.heap.size ≤ i := fun i hi => by
            simp only [wfp, List.mem_cons, Option.mem_toList] at hi
            rcases hi with rfl | hi
            · exact HR.out
            · rcases hnew6 with h | ⟨g, h1, h2⟩
              · rw [h] at hi; simp [Value.ownBlock] at hi
              · rw [h1] at hi; cases hi; have := F5.out.size; omega
          have HN6 := Lib.hid hn6
          have H6 := Lib.hid (And.intro hw6 (f6.outL F5.out (fun i hi => .inr (by simp [wfp, Value.ownBlock] at hi; have := HR.out; omega))))
          clear hw6 hnew6 f6 f5 HC hn6
          go_wp2_with fail
          refine (write_stored wr.heap.size 262144 v6 0 n none 0 [] s last w6 H6.out.1 (by omega) (by omega)).mono ?_
          rintro e w7 ⟨v7, N7, L7, E7, rfl, k7, f7, n7, d7⟩
          rw [HT.out.2.2] at d7
          have hd7 : E7 = 0 ∧ N7 = T.1 ∧ L7 = T.2 := by
            rcases d7 with ⟨_, h1, h2, h3⟩ | ⟨h1, _⟩
            · exact ⟨h1, h2, h3⟩
            · unfold roomy at h1
              simp at h1
              omega
          obtain ⟨rfl, rfl, rfl⟩ := hd7
          have H7 := Lib.hid (And.intro k7 (f7.outL H6.out.2 (fun i hi => .inr (HN6.out i hi))))
          clear k7 f7 n7 d7
          go_wp2_with fail
          refine (wtext_any wr.heap.size v7 T.1 T.2 262144 w7 H7.out.1 (by omega)).mono ?_
          rintro e w8 ⟨rfl, f8⟩
          have H8 := Lib.hid (H7.out.2.trans f8)
          have hS0 : (wtext T.1 T.2).size = (T.2 + 7) / 8 := size_leb _ _
          obtain ⟨S, hS⟩ : ∃ S, wtext T.1 T.2 = S := ⟨_, rfl⟩
          rw [hS] at hS0 ⊢
          have HS := Lib.hid (show S = leb T.1 ((T.2 + 7) / 8) from hS.symm)
          have hSi : (S.size : Int) ≤ 262144 := by omega
          clear f8 hS
          have hTi : (T.2 : Int) ≤ 2097152 := by omega
          go_wp2_with fail
          go_loopw [14, 15, 16] (fun v14 v15 v16 wr => ∃ (a : Nat) (fs : Bool) (r : ByteArray), v14 = .int .i64 (a : Int) ∧ v15 = .bool fs ∧ v16 = .string r ∧ Fr [] w wr ∧ ((∃ f D, OkD D ∧ storedF f last D r = T ∧ 1 ≤ f ∧ r.size ≤ f * 65535 ∧ a = (D.2 + 10) / 8 ∧ (fs = true ∨ 0 < r.size)) ∨ (fs = false ∧ r.size = 0 ∧ a = (T.2 + 7) / 8))) (fun _ v15 v16 _ => stMes v16 v15)
          case atStart => exact ⟨(n + 10) / 8, true, s, by go_num, rfl, rfl, H8.out, .inl ⟨17, (0, n), Nat.pow_pos (by decide), HT.out.1, by omega, by omega, rfl, .inl rfl⟩⟩
          case round =>
            obtain ⟨a, fs, r, rfl, rfl, rfl, hf, hrel⟩ := hrel
            rcases hrel with ⟨f, D, hD, hst, hf1, hrf, ha, hgo⟩ | ⟨rfl, hr0, rfl⟩
            · obtain ⟨m, hm⟩ : ∃ m, min r.size 65535 = m := ⟨_, rfl⟩
              have hm1 : m ≤ r.size := by omega
              have hmi : min (r.size : Int) 65535 = (m : Int) := by omega
              have hm6 : (m : Int) ≤ 65535 := by omega
              have hms : (m : Int) ≤ (r.size : Int) := by omega
              obtain ⟨D2, hD2, hD2x, hD2s, hD2a, hD2b, hD2c, hD2r⟩ : ∃ D2, OkD D2 ∧ Ext D2 T ∧ D2.2 = 8 * (a + 4 + m) ∧ fld D2.1 (8 * a) 16 = m ∧ fld D2.1 (8 * a + 16) 16 = 65535 - m ∧ fld D2.1 (8 * (a + 4)) (8 * m) = num (r.extract 0 m) ∧ (m = r.size ∧ D2 = T ∨ m = 65535 ∧ 65535 < r.size ∧ 2 ≤ f ∧ storedF (f - 1) last D2 (r.extract 65535 r.size) = T) := by
                obtain ⟨f, rfl⟩ : ∃ f', f = f' + 1 := ⟨f - 1, by omega⟩
                unfold storedF at hst
                by_cases h5 : r.size ≤ 65535
                · rw [if_pos h5] at hst
                  have e : m = r.size := by omega
                  have h6 := oneD_facts hD r last h5 a (by omega)
                  rw [hst] at h6
                  rw [e]
                  refine ⟨T, h6.1, Ext.refl h6.1, h6.2.2.1, h6.2.2.2.1, h6.2.2.2.2.1, ?_, .inl ⟨rfl, rfl⟩⟩
                  rw [extract_whole]; exact h6.2.2.2.2.2
                · rw [if_neg h5] at hst
                  have e : m = 65535 := by omega
                  have hz : (r.extract 0 65535).size = 65535 := by rw [ByteArray.size_extract]; omega
                  have h6 := oneD_facts hD (r.extract 0 65535) false (by omega) a (by omega)
                  rw [hz] at h6
                  rw [e]
                  have h7 := storedF_ext f last (oneD D (r.extract 0 65535) false) (r.extract 65535 r.size) h6.1
                  rw [hst] at h7
                  exact ⟨_, h6.1, h7.1, h6.2.2.1, h6.2.2.2.1, h6.2.2.2.2.1, h6.2.2.2.2.2, .inr ⟨rfl, by omega, by omega, hst⟩⟩
              have hin : a + 4 + m ≤ S.size := by have := hD2x.1; omega
              have t1 := hD2x.fld (8 * a) 16 (by omega)
              have t2 := hD2x.fld (8 * a + 16) 16 (by omega)
              have t3 := hD2x.fld (8 * (a + 4)) (8 * m) (by omega)
              rw [hD2a] at t1
              rw [hD2b] at t2
              rw [hD2c] at t3
              have HD2 := Lib.hid (And.intro hD2 (And.intro hD2x (And.intro hD2s hD2r)))
              have HF9 := Lib.hid hf
              have hini : (a : Int) + 4 + (m : Int) ≤ (S.size : Int) := by omega
              have hne : 0 < r.size → r.toList.isEmpty = false := fun h0 => by
                rw [ByteArray.toList_eq, List.isEmpty_eq_false_iff]
                intro h
                have h1 : r.size = r.data.toList.length := Lib.size_eq r
                rw [h, List.length_nil] at h1
                omega
              clear hD hst hD2 hD2x hD2s hD2r hD2a hD2b hD2c hf ha
              go_upto_region 16 with fail
              go_cut [67] from 63 to 67 (fun v67 wx => v67 = .bool true ∧ wx = wr)
              case first =>
                cases fs
                · have h0 : 0 < r.size := by rcases hgo with h | h; cases h; exact h
                  have hne := hne h0
                  go_wp2_with fail
                  go_meet
                  case rel => exact ⟨rfl, rfl⟩
                · go_wp2_with fail
                  go_meet
                  case rel => exact ⟨rfl, rfl⟩
              case rest =>
              obtain ⟨rfl, hwr⟩ := hcut
              subst hwr
              obtain ⟨b0, b1, b2, b3, hb0, hb1, hb2, hb3, hs1, hs2, hx0, hx1, hx2, hx3⟩ := four_bytes S T.1 ((T.2 + 7) / 8) a m HS.out hin (by omega) t1 t2
              have hb0i : (b0 : Int) < 256 := by omega
              have hb1i : (b1 : Int) < 256 := by omega
              have hb2i : (b2 : Int) < 256 := by omega
              have hb3i : (b3 : Int) < 256 := by omega
              have he1 : (b0 : Int) + 256 * (b1 : Int) = (m : Int) := by omega
              have he2 : (b2 : Int) + 256 * (b3 : Int) = 65535 - (m : Int) := by omega
              have hpart : S.extract (a + 4) (a + 4 + m) = r.extract 0 m := by
                rw [HS.out]
                exact leb_part T.1 _ (a + 4) (a + 4 + m) (by rw [← hS0]; exact hin) _ (by rw [ByteArray.size_extract]; omega) (by omega) (by rw [show a + 4 + m - (a + 4) = m by omega]; exact t3)
              have hsp : ∀ W : World, (Instr.slice 9 (.string S) (some (.int .i64 ((a : Int) + 4))) (some (.int .i64 ((a : Int) + 4 + (m : Int)))) none).run Try.prog W = .ok (.string (r.extract 0 m)) W := fun W => by
                have := run_slice_string (P := Try.prog) (w := W) 9 S .i64 .i64 ((a : Int) + 4) ((a : Int) + 4 + (m : Int)) Try.underlying9 (by omega) (by omega) (by omega)
                rw [show ((a : Int) + 4).toNat = a + 4 by omega, show ((a : Int) + 4 + (m : Int)).toNat = a + 4 + m by omega, hpart] at this
                exact this
              have hrh : ∀ W : World, (Instr.slice 9 (.string r) none (some (.int .i64 (m : Int))) none).run Try.prog W = .ok (.string (r.extract 0 m)) W := fun W => by
                rw [run_slice_string_h W _ r Try.underlying9 .i64 (m : Int) (by omega) (by omega)]
                simp
              obtain ⟨r2, hr2⟩ : ∃ r2, r.extract m r.size = r2 := ⟨_, rfl⟩
              have hrl : ∀ W : World, (Instr.slice 9 (.string r) (some (.int .i64 (m : Int))) none none).run Try.prog W = .ok (.string r2) W := fun W => by
                rw [run_slice_string_l W _ r Try.underlying9 .i64 (m : Int) (by omega) (by omega), ← hr2]
                simp
              obtain ⟨r1, hr1⟩ : ∃ r1, r.extract 0 m = r1 := ⟨_, rfl⟩
              rw [hr1] at hsp hrh
              have hr2s : r2.size = r.size - m := by rw [← hr2, ByteArray.size_extract]; omega
              have HR2 := Lib.hid (And.intro hr2 hr2s)
              obtain ⟨hD2, hD2x, hD2s, hD2r⟩ := HD2.out
              rcases hD2r with ⟨hmr, hDT⟩ | ⟨hmr, h65, hf2, hst⟩
              · have hne2 : r2.toList.isEmpty = true := by
                  rw [ByteArray.toList_eq, List.isEmpty_iff, ← List.length_eq_zero_iff]
                  have h1 : r2.size = r2.data.toList.length := Lib.size_eq r2
                  omega
                have HDT := Lib.hid (And.intro hDT (And.intro hmr (And.intro hD2s hgo)))
                clear hs1 hs2 hpart hr1 hr2 hr2s t1 t2 t3 hD2 hD2x hD2s hDT hmr hgo hne
                go_wp2_with fail
                go_quiet (fail)
                go_wp2_with fail
                obtain ⟨e1, e2, e3, e4⟩ := HDT.out
                have e5 := HR2.out.2
                refine ⟨⟨a + 4 + m, false, r2, by go_num, rfl, rfl, HF9.out.trans (Fr.drewN _ _ _), .inr ⟨rfl, by omega, by rw [← e1, e3]; omega⟩⟩, ?_⟩
                cases fs
                · have e6 : 0 < r.size := by rcases e4 with h | h; cases h; exact h
                  simp only [stMes]; omega
                · simp only [stMes]; omega
              · have hne2 : r2.toList.isEmpty = false := by
                  rw [ByteArray.toList_eq, List.isEmpty_eq_false_iff]
                  intro h
                  have h1 : r2.size = r2.data.toList.length := Lib.size_eq r2
                  rw [h, List.length_nil] at h1
                  omega
                have HDT := Lib.hid (And.intro hD2 (And.intro hmr (And.intro hD2s (And.intro h65 (And.intro hf2 (And.intro hst (show r.size ≤ f * 65535 from hrf)))))))
                clear hs1 hs2 hpart hr1 hr2 hr2s t1 t2 t3 hD2 hD2x hD2s hmr h65 hf2 hst hgo hne
                go_wp2_with fail
                go_quiet (fail)
                go_wp2_with fail
                obtain ⟨e1, e2, e3, e4, e5, e6, e7⟩ := HDT.out
                have e8 := HR2.out.2
                have e9 : r2 = r.extract 65535 r.size := by rw [← HR2.out.1, e2]
                refine ⟨⟨a + 4 + m + 1, false, r2, by go_num, rfl, rfl, HF9.out.trans (Fr.drewN _ _ _), .inl ⟨f - 1, D2, e1, by rw [e9]; exact e6, by omega, ?_, by rw [e3]; omega, .inr (by omega)⟩⟩, ?_⟩
                · obtain ⟨g, rfl⟩ : ∃ g, f = g + 1 := ⟨f - 1, by omega⟩
                  rw [Nat.add_sub_cancel]
                  omega
                · cases fs <;> simp only [stMes] <;> omega
            · have hne : r.toList.isEmpty = true := by
                rw [ByteArray.toList_eq, List.isEmpty_iff, ← List.length_eq_zero_iff]
                have h1 : r.size = r.data.toList.length := Lib.size_eq r
                omega
              have HF9 := Lib.hid hf
              have hae : (S.size : Int) = ((T.2 : Int) + 7) / 8 := by omega
              clear hf hr0
              go_wp2_with fail
              refine (HW.out _).mono ?_
              rintro e w12 ⟨rfl, f12⟩
              have F12 := Lib.hid (HF9.out.trans f12)
              clear f12
              go_wp2_with fail
              go_ret
              exact ⟨rfl, F12.out.below⟩)
end Go.Proofs.Ytciejmlhdmjajaa

