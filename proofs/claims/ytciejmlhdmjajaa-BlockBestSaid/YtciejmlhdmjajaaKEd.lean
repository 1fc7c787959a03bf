/- Package symbol: what tells a length, what tells a distance. Tokens; which may be. -/
import Derived.Test.YtciejmlhdmjajaaKEb
namespace Go.Proofs.Ytciejmlhdmjajaa
open Go.RowKit
set_option linter.unusedVariables false
set_option linter.unusedSimpArgs false

theorem results_tmp4 {fn : Func} {t u v x : Tmp} (h : fn.results = #[.tmp t, .tmp u, .tmp v, .tmp x]) (tmps : Array Value) (P : Program) (w : World) :
    (results fn tmps).run P w = .ok (.tuple #[tmps.getD t undef, tmps.getD u undef, tmps.getD v undef, tmps.getD x undef]) w := by
  simp [results, h]
theorem alloc_last (w : World) (o : Obj) : (w.alloc o).heap[w.heap.size]? = some o := by
  show (w.heap.push o)[w.heap.size]? = some o
  simp
theorem lb_le : ∀ s : Nat, s ≤ 285 → lbN s ≤ 6 := by
  intro s h; unfold lbN; split <;> omega
theorem db_le : ∀ s : Nat, s ≤ 29 → dbN s ≤ 13 := by
  intro s h; unfold dbN; split <;> omega
set_option maxRecDepth 100000 in
set_option maxHeartbeats 1600000 in
theorem length_no (n : Int) (w : World) (hn : n < 3 ∨ 258 < n) (h63 : -9223372036854775808 ≤ n ∧ n ≤ 9223372036854775807) :
    Calls Try.prog 43 #[.int .i64 n] w fun e w' => e = .returned (.tuple #[.int .i64 0, .int .u32 0, .int .i64 0, .bool false]) ∧ Fr [] w w' := by
  by_cases h3 : n < 3
  · clear hn
    go_enter Try.func43, Try.ntmps43
    go_wp2_with fail
    ((try simp only [Exit.inBlock, Exit.then]); refine bodyPost_ret (results_tmp4 rfl _ _ _) rfl ?_)
    exact ⟨rfl, (Fr.alloc _ _ _)⟩
  · have h4 : 258 < n := by omega
    have h5 : ¬ n < 3 := h3
    clear hn h3
    go_enter Try.func43, Try.ntmps43
    go_wp2_with fail
    ((try simp only [Exit.inBlock, Exit.then]); refine bodyPost_ret (results_tmp4 rfl _ _ _) rfl ?_)
    exact ⟨rfl, (Fr.alloc _ _ _)⟩
set_option maxRecDepth 100000 in
set_option maxHeartbeats 1600000 in
theorem dist_no (n : Int) (w : World) (hn : n < 1 ∨ 32768 < n) (h63 : -9223372036854775808 ≤ n ∧ n ≤ 9223372036854775807) :
    Calls Try.prog 44 #[.int .i64 n] w fun e w' => e = .returned (.tuple #[.int .i64 0, .int .u32 0, .int .i64 0, .bool false]) ∧ Fr [] w w' := by
  by_cases h3 : n < 1
  · clear hn
    go_enter Try.func44, Try.ntmps44
    go_wp2_with fail
    ((try simp only [Exit.inBlock, Exit.then]); refine bodyPost_ret (results_tmp4 rfl _ _ _) rfl ?_)
    exact ⟨rfl, (Fr.alloc _ _ _)⟩
  · have h4 : 32768 < n := by omega
    have h5 : ¬ n < 1 := h3
    clear hn h3
    go_enter Try.func44, Try.ntmps44
    go_wp2_with fail
    ((try simp only [Exit.inBlock, Exit.then]); refine bodyPost_ret (results_tmp4 rfl _ _ _) rfl ?_)
    exact ⟨rfl, (Fr.alloc _ _ _)⟩
set_option maxRecDepth 100000 in
set_option maxHeartbeats 1600000 in
theorem length_yes (n : Nat) (w : World) (h3 : 3 ≤ n) (h258 : n ≤ 258) :
    Calls Try.prog 43 #[.int .i64 (n : Int)] w fun e w' => (∃ r : Nat, e = .returned (.tuple #[.int .i64 ((256 + r : Nat) : Int), .int .u32 ((n - leastN (256 + r) : Nat) : Int), .int .i64 (lbN (256 + r) : Nat), .bool true]) ∧ 1 ≤ r ∧ r ≤ 29 ∧ Upto lengthF 29 n r ∧ leastN (256 + r) ≤ n) ∧ Fr [] w w' := by
  have h3i : (3 : Int) ≤ (n : Int) := by omega
  have h4i : (n : Int) ≤ 258 := by omega
  have HS := Lib.hid (length_search w.heap.size n)
  have HN := Lib.hid (And.intro h3 h258)
  clear h3 h258
  go_enter Try.func43, Try.ntmps43
  go_wp2_with fail
  refine (HS.out _ (by have := HN.out; omega) (alloc_last w _)).mono ?_
  rintro e w1 ⟨r, rfl, hu, f1⟩
  have F1 := Lib.hid ((Fr.alloc [] w _).trans f1)
  have HC := Lib.hid (f1.blk (alloc_last w (.cells #[.int .i64 (n : Int)] 3 (0, 0))) (by simp))
  have hlt1 := lt_of HC.out
  have c1 := cell_of HC.out 0
  simp at c1
  clear f1 hlt1
  obtain ⟨hN1, hN2⟩ := HN.out
  have hr1 : 1 ≤ r := by
    rcases Nat.eq_zero_or_pos r with h | h
    · subst h
      have h5 := hu.2.2 0 (by omega) (by omega)
      have h6 : lengthF 0 = 3 := by decide
      omega
    · exact h
  have hr2 : r ≤ 29 := hu.1
  obtain ⟨s, hs⟩ : ∃ s, 256 + r = s := ⟨_, rfl⟩
  have hle : leastN s ≤ n := by
    have h5 := hu.2.1 (r - 1) (by omega)
    unfold lengthF at h5
    rw [show 257 + (r - 1) = s by omega] at h5
    exact h5
  have es : (256 : Int) + (r : Int) = (s : Int) := by omega
  have hsb : (s : Int) ≤ 285 := by omega
  obtain ⟨v, hv⟩ : ∃ v, leastN s = v := ⟨_, rfl⟩
  have hvi : (v : Int) ≤ (n : Int) := by omega
  obtain ⟨d, hd⟩ : ∃ d, n - v = d := ⟨_, rfl⟩
  have ed : (n : Int) - (v : Int) = (d : Int) := by omega
  have hdi : (d : Int) ≤ 258 := by omega
  obtain ⟨b, hb⟩ : ∃ b, lbN s = b := ⟨_, rfl⟩
  have HBITS := Lib.hid (fun W => lengthBits_ok s W (by omega) (by omega))
  have HL := Lib.hid (fun W => least_any s W (by omega) (by omega))
  rw [hb] at HBITS
  rw [hv] at HL
  have HR := Lib.hid (And.intro hr1 (And.intro hr2 (And.intro hu (And.intro hle (And.intro hv (And.intro hd (And.intro hb hs)))))))
  clear hr1 hr2 hu hle hv hd hb hs hN1 hN2
  go_wp2_with fail
  refine (HBITS.out _).mono ?_
  rintro e w2 ⟨rfl, hw⟩
  replace hw := hw.symm
  subst hw
  go_wp2_with fail
  refine wp_region_quiet_lit (by kernel_rfl) (by kernel_rfl) ?_
  repeat go_big_quiet_step (fail)
  (go_big_quiet_want; go_big_quiet_op; first | (refine ⟨_, fun _ => HL.out _, ?_⟩; go_big_quiet_on) | (refine ⟨_, fun _ => Calls.quiet_of_same (HL.out _), ?_⟩; go_big_quiet_on) | skip)
  repeat go_big_quiet_step (fail)
  refine wpQuiet_nil ?_
  intro _ hw'
  obtain ⟨nq, hw''⟩ := hw'
  subst hw''
  go_wp2_with fail
  ((try simp only [Exit.inBlock, Exit.then]); refine bodyPost_ret (results_tmp4 rfl _ _ _) rfl ?_)
  obtain ⟨hr1, hr2, hu, hle, hv, hd, hb, hs⟩ := HR.out
  refine ⟨⟨r, ?_, hr1, hr2, hu, by rw [hs]; exact hle⟩, F1.out.trans (Fr.drewN _ _ _)⟩
  rw [hs, hv, hd, hb]
  simp
set_option maxRecDepth 100000 in
set_option maxHeartbeats 1600000 in
theorem dist_yes (n : Nat) (w : World) (h3 : 1 ≤ n) (h258 : n ≤ 32768) :
    Calls Try.prog 44 #[.int .i64 (n : Int)] w fun e w' => (∃ r : Nat, e = .returned (.tuple #[.int .i64 ((r : Nat) : Int), .int .u32 ((n - nearN r : Nat) : Int), .int .i64 (dbN r : Nat), .bool true]) ∧ r ≤ 29 ∧ Upto distF 30 n (r + 1) ∧ nearN r ≤ n) ∧ Fr [] w w' := by
  have h3i : (1 : Int) ≤ (n : Int) := by omega
  have h4i : (n : Int) ≤ 32768 := by omega
  have HS := Lib.hid (dist_search w.heap.size n)
  have HN := Lib.hid (And.intro h3 h258)
  clear h3 h258
  go_enter Try.func44, Try.ntmps44
  go_wp2_with fail
  refine (HS.out _ (by have := HN.out; omega) (alloc_last w _)).mono ?_
  rintro e w1 ⟨q, rfl, hu, f1⟩
  have F1 := Lib.hid ((Fr.alloc [] w _).trans f1)
  have HC := Lib.hid (f1.blk (alloc_last w (.cells #[.int .i64 (n : Int)] 3 (0, 0))) (by simp))
  have hlt1 := lt_of HC.out
  have c1 := cell_of HC.out 0
  simp at c1
  clear f1 hlt1
  obtain ⟨hN1, hN2⟩ := HN.out
  have hr1 : 1 ≤ q := by
    rcases Nat.eq_zero_or_pos q with h | h
    · subst h
      have h5 := hu.2.2 0 (by omega) (by omega)
      have h6 : distF 0 = 1 := by decide
      omega
    · exact h
  have hr2 : q ≤ 30 := hu.1
  obtain ⟨r, rfl⟩ : ∃ r, q = r + 1 := ⟨q - 1, by omega⟩
  have hle : nearN r ≤ n := hu.2.1 r (by omega)
  have es : ((r + 1 : Nat) : Int) - 1 = (r : Int) := by omega
  have hsb : (r : Int) ≤ 29 := by omega
  obtain ⟨v, hv⟩ : ∃ v, nearN r = v := ⟨_, rfl⟩
  have hvi : (v : Int) ≤ (n : Int) := by omega
  obtain ⟨d, hd⟩ : ∃ d, n - v = d := ⟨_, rfl⟩
  have ed : (n : Int) - (v : Int) = (d : Int) := by omega
  have hdi : (d : Int) ≤ 32768 := by omega
  obtain ⟨b, hb⟩ : ∃ b, dbN r = b := ⟨_, rfl⟩
  have HBITS := Lib.hid (fun W => distBits_ok r W (by omega))
  have HL := Lib.hid (fun W => near_any r W (by omega))
  rw [hb] at HBITS
  rw [hv] at HL
  have HR := Lib.hid (And.intro (show r ≤ 29 by omega) (And.intro hu (And.intro hle (And.intro hv (And.intro hd hb)))))
  clear hr1 hr2 hu hle hv hd hb hN1 hN2
  go_wp2_with fail
  refine (HBITS.out _).mono ?_
  rintro e w2 ⟨rfl, hw⟩
  replace hw := hw.symm
  subst hw
  go_wp2_with fail
  refine wp_region_quiet_lit (by kernel_rfl) (by kernel_rfl) ?_
  repeat go_big_quiet_step (fail)
  (go_big_quiet_want; go_big_quiet_op; first | (refine ⟨_, fun _ => HL.out _, ?_⟩; go_big_quiet_on) | (refine ⟨_, fun _ => Calls.quiet_of_same (HL.out _), ?_⟩; go_big_quiet_on) | skip)
  repeat go_big_quiet_step (fail)
  refine wpQuiet_nil ?_
  intro _ hw'
  obtain ⟨nq, hw''⟩ := hw'
  subst hw''
  go_wp2_with fail
  ((try simp only [Exit.inBlock, Exit.then]); refine bodyPost_ret (results_tmp4 rfl _ _ _) rfl ?_)
  obtain ⟨hr2, hu, hle, hv, hd, hb⟩ := HR.out
  refine ⟨⟨r, ?_, hr2, hu, hle⟩, F1.out.trans (Fr.drewN _ _ _)⟩
  rw [hv, hd, hb]
  simp
end Go.Proofs.Ytciejmlhdmjajaa
namespace Go.Proofs.Ytciejmlhdmjajaa
open Go.RowKit
set_option linter.unusedVariables false
set_option linter.unusedSimpArgs false

structure Tok where
  lit : Nat
  len : Int
  dist : Int
def Tok.ok (t : Tok) : Prop := t.lit < 256 ∧ (-9223372036854775808 ≤ t.len ∧ t.len ≤ 9223372036854775807) ∧ (-9223372036854775808 ≤ t.dist ∧ t.dist ≤ 9223372036854775807)
def Tok.enc (t : Tok) : List Value := [.int .u8 (t.lit : Int), .int .i64 t.len, .int .i64 t.dist]
def Tok.val (t : Tok) : Value := .agg #[.int .u8 (t.lit : Int), .int .i64 t.len, .int .i64 t.dist]
def Tok.sz : Nat := 3
def Tok.may (t : Tok) : Bool := if t.len = 0 then decide (t.dist = 0) else decide (3 ≤ t.len ∧ t.len ≤ 258 ∧ 1 ≤ t.dist ∧ t.dist ≤ 32768 ∧ t.lit = 0)
set_option maxRecDepth 100000 in
set_option maxHeartbeats 3200000 in
theorem may_tok (t : Tok) (w : World) (h : t.ok) : Calls Try.prog 41 #[t.val] w fun e w' => e = .returned (.bool t.may) ∧ Fr [] w w' := by
  obtain ⟨l, n, d⟩ := t
  obtain ⟨h1, ⟨h2, h3⟩, h4, h5⟩ := h
  simp only at h1 h2 h3 h4 h5
  have h1i : (l : Int) < 256 := by omega
  unfold Tok.may Tok.val
  simp only
  by_cases hn : n = 0
  · subst hn
    go_enter Try.func41, Try.ntmps41
    go_wp2_with fail
    go_ret
    exact ⟨by simp; rw [Bool.eq_iff_iff]; simp, Fr.alloc _ _ _⟩
  · have hnb : (n == 0) = false := by rw [beq_eq_false_iff_ne]; exact hn
    rw [if_neg hn]
    by_cases ha : 3 ≤ n
    · by_cases hb : n ≤ 258
      · by_cases hc : 1 ≤ d
        · by_cases he : d ≤ 32768
          · go_enter Try.func41, Try.ntmps41
            go_wp2_with fail
            go_ret
            exact ⟨by simp [ha, hb, hc, he]; rw [Bool.eq_iff_iff]; simp, Fr.alloc _ _ _⟩
          · go_enter Try.func41, Try.ntmps41
            go_wp2_with fail
            go_ret
            exact ⟨by simp [ha, hb, hc, he]; omega, Fr.alloc _ _ _⟩
        · go_enter Try.func41, Try.ntmps41
          go_wp2_with fail
          go_ret
          exact ⟨by simp [ha, hb, hc]; omega, Fr.alloc _ _ _⟩
      · go_enter Try.func41, Try.ntmps41
        go_wp2_with fail
        go_ret
        exact ⟨by simp [ha, hb]; omega, Fr.alloc _ _ _⟩
    · go_enter Try.func41, Try.ntmps41
      go_wp2_with fail
      go_ret
      exact ⟨by simp [ha]; omega, Fr.alloc _ _ _⟩
set_option maxRecDepth 100000 in
set_option maxHeartbeats 3200000 in
theorem refMay_tok (t : Tok) (w : World) (h : t.ok) : Calls Try.prog 28 #[t.val] w fun e w' => e = .returned (.bool t.may) ∧ Fr [] w w' := by
  obtain ⟨l, n, d⟩ := t
  obtain ⟨h1, ⟨h2, h3⟩, h4, h5⟩ := h
  simp only at h1 h2 h3 h4 h5
  have h1i : (l : Int) < 256 := by omega
  unfold Tok.may Tok.val
  simp only
  by_cases hn : n = 0
  · subst hn
    go_enter Try.func28, Try.ntmps28
    go_wp2_with fail
    go_ret
    exact ⟨by simp; rw [Bool.eq_iff_iff]; simp, Fr.alloc _ _ _⟩
  · have hnb : (n == 0) = false := by rw [beq_eq_false_iff_ne]; exact hn
    rw [if_neg hn]
    by_cases ha : 3 ≤ n
    · by_cases hb : n ≤ 258
      · by_cases hc : 1 ≤ d
        · by_cases he : d ≤ 32768
          · go_enter Try.func28, Try.ntmps28
            go_wp2_with fail
            go_ret
            exact ⟨by simp [ha, hb, hc, he]; rw [Bool.eq_iff_iff]; simp, Fr.alloc _ _ _⟩
          · go_enter Try.func28, Try.ntmps28
            go_wp2_with fail
            go_ret
            exact ⟨by simp [ha, hb, hc, he]; omega, Fr.alloc _ _ _⟩
        · go_enter Try.func28, Try.ntmps28
          go_wp2_with fail
          go_ret
          exact ⟨by simp [ha, hb, hc]; omega, Fr.alloc _ _ _⟩
      · go_enter Try.func28, Try.ntmps28
        go_wp2_with fail
        go_ret
        exact ⟨by simp [ha, hb]; omega, Fr.alloc _ _ _⟩
    · go_enter Try.func28, Try.ntmps28
      go_wp2_with fail
      go_ret
      exact ⟨by simp [ha]; omega, Fr.alloc _ _ _⟩
end Go.Proofs.Ytciejmlhdmjajaa

