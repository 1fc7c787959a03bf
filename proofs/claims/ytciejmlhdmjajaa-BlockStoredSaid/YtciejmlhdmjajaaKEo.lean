/- Package runs: the runs of code lengths, plain; as many of one symbol as there may be. -/
import Derived.Test.YtciejmlhdmjajaaKEj
import Derived.Test.YtciejmlhdmjajaaKEe
namespace Go.Proofs.Ytciejmlhdmjajaa
open Go.RowKit Go.Shelf
set_option linter.unusedVariables false
set_option linter.unusedSimpArgs false
attribute [local go_sem] Oper.semAt_some

def loN (s : Nat) : Nat := if s = 18 then 11 else 3
def mostN (s : Nat) : Nat := if s = 16 then 6 else if s = 17 then 10 else 138
def repsL (s : Nat) : Nat → Nat → List (Nat × Nat)
  | 0, _ => []
  | f + 1, n => if loN s ≤ n then (s, min n (mostN s) - loN s) :: repsL s f (n - min n (mostN s)) else []
def repsR (s : Nat) : Nat → Nat → Nat
  | 0, n => n
  | f + 1, n => if loN s ≤ n then repsR s f (n - min n (mostN s)) else n
theorem lo_most (s : Nat) : 3 ≤ loN s ∧ loN s ≤ 11 ∧ 6 ≤ mostN s ∧ mostN s ≤ 138 := by
  unfold loN mostN
  (repeat' split) <;> omega
theorem repsL_fuel (s : Nat) : ∀ f g n, n ≤ f → n ≤ g → repsL s f n = repsL s g n
  | 0, 0, _, _, _ => rfl
  | 0, g + 1, n, h1, h2 => by
    have := lo_most s
    unfold repsL
    rw [if_neg (by omega)]
  | f + 1, 0, n, h1, h2 => by
    have := lo_most s
    unfold repsL
    rw [if_neg (by omega)]
  | f + 1, g + 1, n, h1, h2 => by
    have := lo_most s
    unfold repsL
    split
    · rw [repsL_fuel s f g _ (by omega) (by omega)]
    · rfl
theorem repsR_fuel (s : Nat) : ∀ f g n, n ≤ f → n ≤ g → repsR s f n = repsR s g n
  | 0, 0, _, _, _ => rfl
  | 0, g + 1, n, h1, h2 => by
    have := lo_most s
    unfold repsR
    rw [if_neg (by omega)]
  | f + 1, 0, n, h1, h2 => by
    have := lo_most s
    unfold repsR
    rw [if_neg (by omega)]
  | f + 1, g + 1, n, h1, h2 => by
    have := lo_most s
    unfold repsR
    split
    · rw [repsR_fuel s f g _ (by omega) (by omega)]
    · rfl
def repL (s n : Nat) : List (Nat × Nat) := repsL s n n
def repR (s n : Nat) : Nat := repsR s n n
theorem repL_step (s n : Nat) (h : loN s ≤ n) : repL s n = (s, min n (mostN s) - loN s) :: repL s (n - min n (mostN s)) := by
  have := lo_most s
  obtain ⟨m, rfl⟩ : ∃ m, n = m + 1 := ⟨n - 1, by omega⟩
  show repsL s (m + 1) (m + 1) = _
  rw [repsL, if_pos h]
  rw [repsL_fuel s m (m + 1 - min (m + 1) (mostN s)) _ (by omega) (Nat.le_refl _)]
  rfl
theorem repL_end (s n : Nat) (h : n < loN s) : repL s n = [] := by
  unfold repL
  cases n with
  | zero => rfl
  | succ m => rw [repsL, if_neg (by omega)]
theorem repR_step (s n : Nat) (h : loN s ≤ n) : repR s n = repR s (n - min n (mostN s)) := by
  have := lo_most s
  obtain ⟨m, rfl⟩ : ∃ m, n = m + 1 := ⟨n - 1, by omega⟩
  show repsR s (m + 1) (m + 1) = _
  rw [repsR, if_pos h]
  rw [repsR_fuel s m (m + 1 - min (m + 1) (mostN s)) _ (by omega) (Nat.le_refl _)]
  rfl
theorem repR_end (s n : Nat) (h : n < loN s) : repR s n = n := by
  unfold repR
  cases n with
  | zero => rfl
  | succ m => rw [repsR, if_neg (by omega)]
theorem repR_le (s : Nat) : ∀ n, repR s n ≤ n := by
  intro n
  induction n using Nat.strongRecOn with
  | _ n ih =>
    have := lo_most s
    by_cases h : loN s ≤ n
    · rw [repR_step s n h]
      have := ih (n - min n (mostN s)) (by omega)
      omega
    · rw [repR_end s n (by omega)]; exact Nat.le_refl _
theorem repR_lt (s : Nat) : ∀ n, repR s n < loN s := by
  intro n
  induction n using Nat.strongRecOn with
  | _ n ih =>
    have := lo_most s
    by_cases h : loN s ≤ n
    · rw [repR_step s n h]
      exact ih (n - min n (mostN s)) (by omega)
    · rw [repR_end s n (by omega)]; omega
theorem repL_len (s : Nat) : ∀ n, (repL s n).length + repR s n ≤ n := by
  intro n
  induction n using Nat.strongRecOn with
  | _ n ih =>
    have := lo_most s
    by_cases h : loN s ≤ n
    · rw [repR_step s n h, repL_step s n h, List.length_cons]
      have := ih (n - min n (mostN s)) (by omega)
      omega
    · rw [repR_end s n (by omega), repL_end s n (by omega)]; simp
/-- A run, as it is handed over. -/
def RunO : Type := {p : Nat × Nat // p.1 < 256 ∧ p.2 < 256}
def RunO.p (x : RunO) : Nat × Nat := x.1
def RunO.encs (x : RunO) : Array Value := #[.agg #[.int .u8 (x.p.1 : Int), .int .u8 (x.p.2 : Int)]]
set_option maxRecDepth 2000000 in
set_option maxHeartbeats 3200000 in
theorem repeats_16 (y : Nat) (J : List RunO → List Nat → World → Prop) (own : List Nat) (N B : Nat) (hJM : ∀ pre M X, J pre M X → ∀ i, i ∈ M → i < X.heap.size) (hJ : Stab own B J) (hY : ∀ pre x M W1, J pre M W1 → pre.length < N → ∀ m, YieldAt Fence.wide m Try.prog y (RunO.encs x) W1 (RoundQ y J pre x M W1))
    (m n : Nat) (hn : n ≤ 100000) (pre : List RunO) (M : List Nat) (W : World) (hW : J pre M W) (hN : pre.length + (repL 16 n).length ≤ N) (hy : y < W.heap.size) :
    CallsIn Fence.wide m Try.prog 90 #[.int .i64 (n : Int), .int .u8 16, .func (.yield y) #[] #[]] W fun e W' => e = .returned (.tuple #[.int .i64 ((repR 16 n : Nat) : Int), .bool true]) ∧ ∃ (ys : List RunO) (M' : List Nat), ys.map RunO.p = repL 16 n ∧ J (pre ++ ys) M' W' ∧ Fr (y :: M) W W' ∧ ∀ i, i ∈ M' → i ∈ M ∨ W.heap.size ≤ i := by
  have HB := Lib.hid (And.intro hJ (And.intro hY (And.intro hW (And.intro hN (And.intro (hJM pre M W hW) hy)))))
  have hni : (n : Int) ≤ 100000 := by omega
  clear hJM hJ hY hW hN hy hn
  refine callsIn_of_wp Try.func90 rfl trivial ?_ rfl
  simp only [Try.ntmps90, List.size_toArray, List.length_cons, List.length_nil, Nat.reduceAdd, Nat.reduceSub, Array.replicate_succ, Array.replicate_zero, List.push_toArray, List.append_toArray, List.nil_append, List.cons_append]
  gi_wp2_with fail
  refine ⟨trivial, fun h => absurd h (by simp [Fence.wide]), (callsIn_wide.2 (rows_ok W)).mono ?_⟩
  rintro e w1 ⟨rfl, f1⟩
  have F1 := Lib.hid f1
  clear f1
  gi_wp2_with fail
  rw [run_rows0]
  gi_wp2_with fail
  have b0 := alloc_last w1 (.cells #[.int .i64 3, .int .i64 2] 142)
  have k0 := cell_of b0 0
  have k1 := cell_of b0 1
  simp at k0 k1
  gi_quiet (fail)
  have FQ := Lib.hid (show Fr [] W ((w1.alloc (.cells #[.int .i64 3, .int .i64 2] 142)).drewN nq) ∧ ((w1.alloc (.cells #[.int .i64 3, .int .i64 2] 142)).drewN nq).heap[w1.heap.size]? = _ from ⟨(F1.out.trans (Fr.alloc _ _ _)).trans (Fr.drewN _ _ _), b0⟩)
  clear k0 k1 b0
  generalize (w1.alloc (.cells #[.int .i64 3, .int .i64 2] 142)).drewN nq = V at *
  gi_wp2_with fail
  gi_loopw [0, 10] (fun v0 _ wr => ∃ (k : Nat) (ys : List RunO) (Mk : List Nat), v0 = .int .i64 (k : Int) ∧ k ≤ n ∧ Hid (ys.map RunO.p ++ repL 16 k = repL 16 n ∧ repR 16 k = repR 16 n) ∧ J (pre ++ ys) Mk wr ∧ wr.heap[w1.heap.size]? = some (.cells #[.int .i64 3, .int .i64 2] 142 (0, 0)) ∧ Hid (Fr (y :: M) W wr ∧ (∀ i, i ∈ Mk → i ∈ M ∨ W.heap.size ≤ i) ∧ w1.heap.size ∉ Mk)) (fun v0 _ _ => (intOf v0).toNat)
  case atStart => exact ⟨n, [], M, rfl, Nat.le_refl _, Lib.hid ⟨rfl, rfl⟩, by rw [List.append_nil]; exact J_fr HB.out.1 HB.out.2.2.1 FQ.out.1, FQ.out.2, Lib.hid ⟨FQ.out.1.nil, fun i hi => .inl hi, fun h => by have h1 := HB.out.2.2.2.2.1 _ h; have h2 := F1.out.size; omega⟩⟩
  case round =>
    obtain ⟨k, ys, Mk, rfl, hk, hp, hj, hbx, hkp⟩ := hrel
    have k0 := cell_of hbx 0
    simp at k0
    by_cases hlo : 3 ≤ k
    · have hloi : 3 ≤ (k : Int) := by omega
      have hki : (k : Int) ≤ 100000 := by omega
      obtain ⟨q, hq⟩ : ∃ q, min k 6 = q := ⟨_, rfl⟩
      have hql : 3 ≤ q := by omega
      have hqk : q ≤ k := by omega
      have hqm : q ≤ 6 := by omega
      have hlen : ys.length + (repL 16 k).length = (repL 16 n).length := by have h1 := congrArg List.length hp.out.1; rw [List.length_append, List.length_map] at h1; exact h1
      have h2 := repL_step 16 k (by rw [show loN 16 = 3 by decide]; exact hlo)
      have h3 := repR_step 16 k (by rw [show loN 16 = 3 by decide]; exact hlo)
      rw [show loN 16 = 3 by decide, show mostN 16 = 6 by decide, hq] at h2
      rw [show mostN 16 = 6 by decide, hq] at h3
      obtain ⟨u, hu⟩ : ∃ u, q - 3 = u := ⟨_, rfl⟩
      rw [hu] at h2
      have eu : (q : Int) - 3 = (u : Int) := by omega
      have hui : (u : Int) ≤ 255 := by omega
      obtain ⟨x0, hx0⟩ : ∃ x0 : RunO, x0.p = (16, u) := ⟨⟨(16, u), by simp only; omega⟩, rfl⟩
      have he : x0.encs = #[.agg #[.int .u8 16, .int .u8 (u : Int)]] := by unfold RunO.encs; rw [hx0]; rfl
      obtain ⟨fn, tmps, assign, body, hy, hR⟩ := HB.out.2.1 (pre ++ ys) x0 Mk wr hj (by have := HB.out.2.2.2.1; rw [h2, List.length_cons] at hlen; rw [List.length_append]; omega) (m - 1)
      rw [he] at hy
      have HR := Lib.hid hR
      have HP := Lib.hid (show (ys ++ [x0]).map RunO.p ++ repL 16 (k - q) = repL 16 n ∧ repR 16 (k - q) = repR 16 n from ⟨by rw [← hp.out.1, h2, List.map_append]; simp [hx0], by rw [← h3]; exact hp.out.2⟩)
      obtain ⟨k', hk'⟩ : ∃ k', k - q = k' := ⟨_, rfl⟩
      rw [hk'] at HP
      have ek : (k : Int) - (q : Int) = (k' : Int) := by omega
      have HK := Lib.hid (And.intro hkp (And.intro hbx (show k' < k ∧ k' ≤ n by omega)))
      have emin : min (k : Int) 6 = (q : Int) := by omega
      have hqi : (q : Int) ≤ 6 := by omega
      have hqi2 : (q : Int) ≤ (k : Int) := by omega
      have hqi3 : 3 ≤ (q : Int) := by omega
      clear hR h2 h3 hp hj hkp hbx hlen he hx0 hu hk' hq hql hqk hqm
      gi_wp2_with fail
      refine ⟨fun h => absurd h (by simp [Fence.wide]), HR.out.mono ?_⟩
      rintro e W5 ⟨rfl, M5, hJ5, hf5, hm5⟩
      have hyW := HB.out.2.2.2.2.2
      have hsz := F1.out.size
      have hbz := lt_of HK.out.2.1
      obtain ⟨q1, q2, q3⟩ := HK.out.1.out
      have hq1 := q1.size
      have H5 := Lib.hid (And.intro hJ5 (And.intro (hf5.blk HK.out.2.1 (by simp; exact ⟨by omega, q3⟩)) (And.intro (hf5.outL q1 (by
        intro i hi
        rcases List.mem_cons.1 hi with rfl | hi
        · left; simp
        · rcases q2 i hi with h | h
          · left; simp [h]
          · right; exact h)) (And.intro (show ∀ i, i ∈ M5 → i ∈ M ∨ W.heap.size ≤ i from fun i hi => by
        rcases hm5 i hi with h | h
        · exact q2 i h
        · right; omega) (show w1.heap.size ∉ M5 from fun h => by
        rcases hm5 _ h with h | h
        · exact q3 h
        · omega)))))
      clear hJ5 hf5 hm5 hy k0 q1 q2 q3 hyW hsz hbz hq1
      gi_wp2_with fail
      go_roundw
      case rel => exact ⟨k', ys ++ [x0], M5, rfl, HK.out.2.2.2, Lib.hid HP.out, by rw [← List.append_assoc]; exact H5.out.1, H5.out.2.1, Lib.hid H5.out.2.2⟩
      case measure => simp [intOf]; have := HK.out.2.2.1; omega
    · have HE := Lib.hid (And.intro (show ys.map RunO.p = repL 16 n by have h1 := hp.out.1; rw [repL_end 16 k (by rw [show loN 16 = 3 by decide]; omega), List.append_nil] at h1; exact h1) (show repR 16 n = k by rw [← hp.out.2, repR_end 16 k (by rw [show loN 16 = 3 by decide]; omega)]))
      have hloi : (k : Int) < 3 := by omega
      have HJ := Lib.hid (And.intro hj hkp)
      clear hp hj hkp
      gi_wp2_with fail
      go_ret2
      exact ⟨by rw [HE.out.2]; rfl, ys, Mk, HE.out.1, HJ.out.1, HJ.out.2.out.1, HJ.out.2.out.2.1⟩
set_option maxRecDepth 2000000 in
set_option maxHeartbeats 3200000 in
theorem repeats_17 (y : Nat) (J : List RunO → List Nat → World → Prop) (own : List Nat) (N B : Nat) (hJM : ∀ pre M X, J pre M X → ∀ i, i ∈ M → i < X.heap.size) (hJ : Stab own B J) (hY : ∀ pre x M W1, J pre M W1 → pre.length < N → ∀ m, YieldAt Fence.wide m Try.prog y (RunO.encs x) W1 (RoundQ y J pre x M W1))
    (m n : Nat) (hn : n ≤ 100000) (pre : List RunO) (M : List Nat) (W : World) (hW : J pre M W) (hN : pre.length + (repL 17 n).length ≤ N) (hy : y < W.heap.size) :
    CallsIn Fence.wide m Try.prog 90 #[.int .i64 (n : Int), .int .u8 17, .func (.yield y) #[] #[]] W fun e W' => e = .returned (.tuple #[.int .i64 ((repR 17 n : Nat) : Int), .bool true]) ∧ ∃ (ys : List RunO) (M' : List Nat), ys.map RunO.p = repL 17 n ∧ J (pre ++ ys) M' W' ∧ Fr (y :: M) W W' ∧ ∀ i, i ∈ M' → i ∈ M ∨ W.heap.size ≤ i := by
  have HB := Lib.hid (And.intro hJ (And.intro hY (And.intro hW (And.intro hN (And.intro (hJM pre M W hW) hy)))))
  have hni : (n : Int) ≤ 100000 := by omega
  clear hJM hJ hY hW hN hy hn
  refine callsIn_of_wp Try.func90 rfl trivial ?_ rfl
  simp only [Try.ntmps90, List.size_toArray, List.length_cons, List.length_nil, Nat.reduceAdd, Nat.reduceSub, Array.replicate_succ, Array.replicate_zero, List.push_toArray, List.append_toArray, List.nil_append, List.cons_append]
  gi_wp2_with fail
  refine ⟨trivial, fun h => absurd h (by simp [Fence.wide]), (callsIn_wide.2 (rows_ok W)).mono ?_⟩
  rintro e w1 ⟨rfl, f1⟩
  have F1 := Lib.hid f1
  clear f1
  gi_wp2_with fail
  rw [run_rows1]
  gi_wp2_with fail
  have b0 := alloc_last w1 (.cells #[.int .i64 3, .int .i64 3] 142)
  have k0 := cell_of b0 0
  have k1 := cell_of b0 1
  simp at k0 k1
  gi_quiet (fail)
  have FQ := Lib.hid (show Fr [] W ((w1.alloc (.cells #[.int .i64 3, .int .i64 3] 142)).drewN nq) ∧ ((w1.alloc (.cells #[.int .i64 3, .int .i64 3] 142)).drewN nq).heap[w1.heap.size]? = _ from ⟨(F1.out.trans (Fr.alloc _ _ _)).trans (Fr.drewN _ _ _), b0⟩)
  clear k0 k1 b0
  generalize (w1.alloc (.cells #[.int .i64 3, .int .i64 3] 142)).drewN nq = V at *
  gi_wp2_with fail
  gi_loopw [0, 10] (fun v0 _ wr => ∃ (k : Nat) (ys : List RunO) (Mk : List Nat), v0 = .int .i64 (k : Int) ∧ k ≤ n ∧ Hid (ys.map RunO.p ++ repL 17 k = repL 17 n ∧ repR 17 k = repR 17 n) ∧ J (pre ++ ys) Mk wr ∧ wr.heap[w1.heap.size]? = some (.cells #[.int .i64 3, .int .i64 3] 142 (0, 0)) ∧ Hid (Fr (y :: M) W wr ∧ (∀ i, i ∈ Mk → i ∈ M ∨ W.heap.size ≤ i) ∧ w1.heap.size ∉ Mk)) (fun v0 _ _ => (intOf v0).toNat)
  case atStart => exact ⟨n, [], M, rfl, Nat.le_refl _, Lib.hid ⟨rfl, rfl⟩, by rw [List.append_nil]; exact J_fr HB.out.1 HB.out.2.2.1 FQ.out.1, FQ.out.2, Lib.hid ⟨FQ.out.1.nil, fun i hi => .inl hi, fun h => by have h1 := HB.out.2.2.2.2.1 _ h; have h2 := F1.out.size; omega⟩⟩
  case round =>
    obtain ⟨k, ys, Mk, rfl, hk, hp, hj, hbx, hkp⟩ := hrel
    have k0 := cell_of hbx 0
    simp at k0
    by_cases hlo : 3 ≤ k
    · have hloi : 3 ≤ (k : Int) := by omega
      have hki : (k : Int) ≤ 100000 := by omega
      obtain ⟨q, hq⟩ : ∃ q, min k 10 = q := ⟨_, rfl⟩
      have hql : 3 ≤ q := by omega
      have hqk : q ≤ k := by omega
      have hqm : q ≤ 10 := by omega
      have hlen : ys.length + (repL 17 k).length = (repL 17 n).length := by have h1 := congrArg List.length hp.out.1; rw [List.length_append, List.length_map] at h1; exact h1
      have h2 := repL_step 17 k (by rw [show loN 17 = 3 by decide]; exact hlo)
      have h3 := repR_step 17 k (by rw [show loN 17 = 3 by decide]; exact hlo)
      rw [show loN 17 = 3 by decide, show mostN 17 = 10 by decide, hq] at h2
      rw [show mostN 17 = 10 by decide, hq] at h3
      obtain ⟨u, hu⟩ : ∃ u, q - 3 = u := ⟨_, rfl⟩
      rw [hu] at h2
      have eu : (q : Int) - 3 = (u : Int) := by omega
      have hui : (u : Int) ≤ 255 := by omega
      obtain ⟨x0, hx0⟩ : ∃ x0 : RunO, x0.p = (17, u) := ⟨⟨(17, u), by simp only; omega⟩, rfl⟩
      have he : x0.encs = #[.agg #[.int .u8 17, .int .u8 (u : Int)]] := by unfold RunO.encs; rw [hx0]; rfl
      obtain ⟨fn, tmps, assign, body, hy, hR⟩ := HB.out.2.1 (pre ++ ys) x0 Mk wr hj (by have := HB.out.2.2.2.1; rw [h2, List.length_cons] at hlen; rw [List.length_append]; omega) (m - 1)
      rw [he] at hy
      have HR := Lib.hid hR
      have HP := Lib.hid (show (ys ++ [x0]).map RunO.p ++ repL 17 (k - q) = repL 17 n ∧ repR 17 (k - q) = repR 17 n from ⟨by rw [← hp.out.1, h2, List.map_append]; simp [hx0], by rw [← h3]; exact hp.out.2⟩)
      obtain ⟨k', hk'⟩ : ∃ k', k - q = k' := ⟨_, rfl⟩
      rw [hk'] at HP
      have ek : (k : Int) - (q : Int) = (k' : Int) := by omega
      have HK := Lib.hid (And.intro hkp (And.intro hbx (show k' < k ∧ k' ≤ n by omega)))
      have emin : min (k : Int) 10 = (q : Int) := by omega
      have hqi : (q : Int) ≤ 10 := by omega
      have hqi2 : (q : Int) ≤ (k : Int) := by omega
      have hqi3 : 3 ≤ (q : Int) := by omega
      clear hR h2 h3 hp hj hkp hbx hlen he hx0 hu hk' hq hql hqk hqm
      gi_wp2_with fail
      refine ⟨fun h => absurd h (by simp [Fence.wide]), HR.out.mono ?_⟩
      rintro e W5 ⟨rfl, M5, hJ5, hf5, hm5⟩
      have hyW := HB.out.2.2.2.2.2
      have hsz := F1.out.size
      have hbz := lt_of HK.out.2.1
      obtain ⟨q1, q2, q3⟩ := HK.out.1.out
      have hq1 := q1.size
      have H5 := Lib.hid (And.intro hJ5 (And.intro (hf5.blk HK.out.2.1 (by simp; exact ⟨by omega, q3⟩)) (And.intro (hf5.outL q1 (by
        intro i hi
        rcases List.mem_cons.1 hi with rfl | hi
        · left; simp
        · rcases q2 i hi with h | h
          · left; simp [h]
          · right; exact h)) (And.intro (show ∀ i, i ∈ M5 → i ∈ M ∨ W.heap.size ≤ i from fun i hi => by
        rcases hm5 i hi with h | h
        · exact q2 i h
        · right; omega) (show w1.heap.size ∉ M5 from fun h => by
        rcases hm5 _ h with h | h
        · exact q3 h
        · omega)))))
      clear hJ5 hf5 hm5 hy k0 q1 q2 q3 hyW hsz hbz hq1
      gi_wp2_with fail
      go_roundw
      case rel => exact ⟨k', ys ++ [x0], M5, rfl, HK.out.2.2.2, Lib.hid HP.out, by rw [← List.append_assoc]; exact H5.out.1, H5.out.2.1, Lib.hid H5.out.2.2⟩
      case measure => simp [intOf]; have := HK.out.2.2.1; omega
    · have HE := Lib.hid (And.intro (show ys.map RunO.p = repL 17 n by have h1 := hp.out.1; rw [repL_end 17 k (by rw [show loN 17 = 3 by decide]; omega), List.append_nil] at h1; exact h1) (show repR 17 n = k by rw [← hp.out.2, repR_end 17 k (by rw [show loN 17 = 3 by decide]; omega)]))
      have hloi : (k : Int) < 3 := by omega
      have HJ := Lib.hid (And.intro hj hkp)
      clear hp hj hkp
      gi_wp2_with fail
      go_ret2
      exact ⟨by rw [HE.out.2]; rfl, ys, Mk, HE.out.1, HJ.out.1, HJ.out.2.out.1, HJ.out.2.out.2.1⟩
set_option maxRecDepth 2000000 in
set_option maxHeartbeats 3200000 in
theorem repeats_18 (y : Nat) (J : List RunO → List Nat → World → Prop) (own : List Nat) (N B : Nat) (hJM : ∀ pre M X, J pre M X → ∀ i, i ∈ M → i < X.heap.size) (hJ : Stab own B J) (hY : ∀ pre x M W1, J pre M W1 → pre.length < N → ∀ m, YieldAt Fence.wide m Try.prog y (RunO.encs x) W1 (RoundQ y J pre x M W1))
    (m n : Nat) (hn : n ≤ 100000) (pre : List RunO) (M : List Nat) (W : World) (hW : J pre M W) (hN : pre.length + (repL 18 n).length ≤ N) (hy : y < W.heap.size) :
    CallsIn Fence.wide m Try.prog 90 #[.int .i64 (n : Int), .int .u8 18, .func (.yield y) #[] #[]] W fun e W' => e = .returned (.tuple #[.int .i64 ((repR 18 n : Nat) : Int), .bool true]) ∧ ∃ (ys : List RunO) (M' : List Nat), ys.map RunO.p = repL 18 n ∧ J (pre ++ ys) M' W' ∧ Fr (y :: M) W W' ∧ ∀ i, i ∈ M' → i ∈ M ∨ W.heap.size ≤ i := by
  have HB := Lib.hid (And.intro hJ (And.intro hY (And.intro hW (And.intro hN (And.intro (hJM pre M W hW) hy)))))
  have hni : (n : Int) ≤ 100000 := by omega
  clear hJM hJ hY hW hN hy hn
  refine callsIn_of_wp Try.func90 rfl trivial ?_ rfl
  simp only [Try.ntmps90, List.size_toArray, List.length_cons, List.length_nil, Nat.reduceAdd, Nat.reduceSub, Array.replicate_succ, Array.replicate_zero, List.push_toArray, List.append_toArray, List.nil_append, List.cons_append]
  gi_wp2_with fail
  refine ⟨trivial, fun h => absurd h (by simp [Fence.wide]), (callsIn_wide.2 (rows_ok W)).mono ?_⟩
  rintro e w1 ⟨rfl, f1⟩
  have F1 := Lib.hid f1
  clear f1
  gi_wp2_with fail
  rw [run_rows2]
  gi_wp2_with fail
  have b0 := alloc_last w1 (.cells #[.int .i64 11, .int .i64 7] 142)
  have k0 := cell_of b0 0
  have k1 := cell_of b0 1
  simp at k0 k1
  gi_quiet (fail)
  have FQ := Lib.hid (show Fr [] W ((w1.alloc (.cells #[.int .i64 11, .int .i64 7] 142)).drewN nq) ∧ ((w1.alloc (.cells #[.int .i64 11, .int .i64 7] 142)).drewN nq).heap[w1.heap.size]? = _ from ⟨(F1.out.trans (Fr.alloc _ _ _)).trans (Fr.drewN _ _ _), b0⟩)
  clear k0 k1 b0
  generalize (w1.alloc (.cells #[.int .i64 11, .int .i64 7] 142)).drewN nq = V at *
  gi_wp2_with fail
  gi_loopw [0, 10] (fun v0 _ wr => ∃ (k : Nat) (ys : List RunO) (Mk : List Nat), v0 = .int .i64 (k : Int) ∧ k ≤ n ∧ Hid (ys.map RunO.p ++ repL 18 k = repL 18 n ∧ repR 18 k = repR 18 n) ∧ J (pre ++ ys) Mk wr ∧ wr.heap[w1.heap.size]? = some (.cells #[.int .i64 11, .int .i64 7] 142 (0, 0)) ∧ Hid (Fr (y :: M) W wr ∧ (∀ i, i ∈ Mk → i ∈ M ∨ W.heap.size ≤ i) ∧ w1.heap.size ∉ Mk)) (fun v0 _ _ => (intOf v0).toNat)
  case atStart => exact ⟨n, [], M, rfl, Nat.le_refl _, Lib.hid ⟨rfl, rfl⟩, by rw [List.append_nil]; exact J_fr HB.out.1 HB.out.2.2.1 FQ.out.1, FQ.out.2, Lib.hid ⟨FQ.out.1.nil, fun i hi => .inl hi, fun h => by have h1 := HB.out.2.2.2.2.1 _ h; have h2 := F1.out.size; omega⟩⟩
  case round =>
    obtain ⟨k, ys, Mk, rfl, hk, hp, hj, hbx, hkp⟩ := hrel
    have k0 := cell_of hbx 0
    simp at k0
    by_cases hlo : 11 ≤ k
    · have hloi : 11 ≤ (k : Int) := by omega
      have hki : (k : Int) ≤ 100000 := by omega
      obtain ⟨q, hq⟩ : ∃ q, min k 138 = q := ⟨_, rfl⟩
      have hql : 11 ≤ q := by omega
      have hqk : q ≤ k := by omega
      have hqm : q ≤ 138 := by omega
      have hlen : ys.length + (repL 18 k).length = (repL 18 n).length := by have h1 := congrArg List.length hp.out.1; rw [List.length_append, List.length_map] at h1; exact h1
      have h2 := repL_step 18 k (by rw [show loN 18 = 11 by decide]; exact hlo)
      have h3 := repR_step 18 k (by rw [show loN 18 = 11 by decide]; exact hlo)
      rw [show loN 18 = 11 by decide, show mostN 18 = 138 by decide, hq] at h2
      rw [show mostN 18 = 138 by decide, hq] at h3
      obtain ⟨u, hu⟩ : ∃ u, q - 11 = u := ⟨_, rfl⟩
      rw [hu] at h2
      have eu : (q : Int) - 11 = (u : Int) := by omega
      have hui : (u : Int) ≤ 255 := by omega
      obtain ⟨x0, hx0⟩ : ∃ x0 : RunO, x0.p = (18, u) := ⟨⟨(18, u), by simp only; omega⟩, rfl⟩
      have he : x0.encs = #[.agg #[.int .u8 18, .int .u8 (u : Int)]] := by unfold RunO.encs; rw [hx0]; rfl
      obtain ⟨fn, tmps, assign, body, hy, hR⟩ := HB.out.2.1 (pre ++ ys) x0 Mk wr hj (by have := HB.out.2.2.2.1; rw [h2, List.length_cons] at hlen; rw [List.length_append]; omega) (m - 1)
      rw [he] at hy
      have HR := Lib.hid hR
      have HP := Lib.hid (show (ys ++ [x0]).map RunO.p ++ repL 18 (k - q) = repL 18 n ∧ repR 18 (k - q) = repR 18 n from ⟨by rw [← hp.out.1, h2, List.map_append]; simp [hx0], by rw [← h3]; exact hp.out.2⟩)
      obtain ⟨k', hk'⟩ : ∃ k', k - q = k' := ⟨_, rfl⟩
      rw [hk'] at HP
      have ek : (k : Int) - (q : Int) = (k' : Int) := by omega
      have HK := Lib.hid (And.intro hkp (And.intro hbx (show k' < k ∧ k' ≤ n by omega)))
      have emin : min (k : Int) 138 = (q : Int) := by omega
      have hqi : (q : Int) ≤ 138 := by omega
      have hqi2 : (q : Int) ≤ (k : Int) := by omega
      have hqi3 : 11 ≤ (q : Int) := by omega
      clear hR h2 h3 hp hj hkp hbx hlen he hx0 hu hk' hq hql hqk hqm
      gi_wp2_with fail
      refine ⟨fun h => absurd h (by simp [Fence.wide]), HR.out.mono ?_⟩
      rintro e W5 ⟨rfl, M5, hJ5, hf5, hm5⟩
      have hyW := HB.out.2.2.2.2.2
      have hsz := F1.out.size
      have hbz := lt_of HK.out.2.1
      obtain ⟨q1, q2, q3⟩ := HK.out.1.out
      have hq1 := q1.size
      have H5 := Lib.hid (And.intro hJ5 (And.intro (hf5.blk HK.out.2.1 (by simp; exact ⟨by omega, q3⟩)) (And.intro (hf5.outL q1 (by
        intro i hi
        rcases List.mem_cons.1 hi with rfl | hi
        · left; simp
        · rcases q2 i hi with h | h
          · left; simp [h]
          · right; exact h)) (And.intro (show ∀ i, i ∈ M5 → i ∈ M ∨ W.heap.size ≤ i from fun i hi => by
        rcases hm5 i hi with h | h
        · exact q2 i h
        · right; omega) (show w1.heap.size ∉ M5 from fun h => by
        rcases hm5 _ h with h | h
        · exact q3 h
        · omega)))))
      clear hJ5 hf5 hm5 hy k0 q1 q2 q3 hyW hsz hbz hq1
      gi_wp2_with fail
      go_roundw
      case rel => exact ⟨k', ys ++ [x0], M5, rfl, HK.out.2.2.2, Lib.hid HP.out, by rw [← List.append_assoc]; exact H5.out.1, H5.out.2.1, Lib.hid H5.out.2.2⟩
      case measure => simp [intOf]; have := HK.out.2.2.1; omega
    · have HE := Lib.hid (And.intro (show ys.map RunO.p = repL 18 n by have h1 := hp.out.1; rw [repL_end 18 k (by rw [show loN 18 = 11 by decide]; omega), List.append_nil] at h1; exact h1) (show repR 18 n = k by rw [← hp.out.2, repR_end 18 k (by rw [show loN 18 = 11 by decide]; omega)]))
      have hloi : (k : Int) < 11 := by omega
      have HJ := Lib.hid (And.intro hj hkp)
      clear hp hj hkp
      gi_wp2_with fail
      go_ret2
      exact ⟨by rw [HE.out.2]; rfl, ys, Mk, HE.out.1, HJ.out.1, HJ.out.2.out.1, HJ.out.2.out.2.1⟩
end Go.Proofs.Ytciejmlhdmjajaa

