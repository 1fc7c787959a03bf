/- Package runs: the runs of code lengths, plain; as many of one symbol as there may be. Package runs: the runs of code lengths, as an iterator. Package runs: Pack. Package block: how many lengths are told. Package block: how codes are told. -/
import Derived.Test.YtciejmlhdmjajaaGreatKEj
import Derived.Test.YtciejmlhdmjajaaGreatKEe
import Derived.Test.YtciejmlhdmjajaaGreatKHd
import Derived.Test.YtciejmlhdmjajaaGreatKOy
import Derived.Test.YtciejmlhdmjajaaGreatKEl
import Derived.Test.YtciejmlhdmjajaaGreatKEm
import Derived.Test.YtciejmlhdmjajaaGreatKCa
import Derived.Test.YtciejmlhdmjajaaGreatKEf
import Derived.Sort.CutIn
namespace Go.Proofs.YtciejmlhdmjajaaGreat
open Go.RowKit Go.Shelf
set_option linter.unusedVariables false
set_option linter.unusedSimpArgs false
attribute [local go_sem] Oper.semAt_some

def loN (s : Nat) : Nat := if s = 18 then 11 else 3
def mostN (s : Nat) : Nat := if s = 16 then 6 else if s = 17 then 10 else 138
def repsL (s : Nat) : Nat → Nat → List (Nat × Nat)
  | 0, _ => []
  | f + 1, n => if loN s ≤ n then (s, min n (mostN s) - loN s) :: repsL s f (n - min n (mostN s)) else []
def repsR (s : Nat) : Nat → Nat → Nat
  | 0, n => n
  | f + 1, n => if loN s ≤ n then repsR s f (n - min n (mostN s)) else n
theorem lo_most (s : Nat) : 3 ≤ loN s ∧ loN s ≤ 11 ∧ 6 ≤ mostN s ∧ mostN s ≤ 138 := by
  unfold loN mostN
  (repeat' split) <;> omega
theorem repsL_fuel (s : Nat) : ∀ f g n, n ≤ f → n ≤ g → repsL s f n = repsL s g n
  | 0, 0, _, _, _ => rfl
  | 0, g + 1, n, h1, h2 => by
    have := lo_most s
    unfold repsL
    rw [if_neg (by omega)]
  | f + 1, 0, n, h1, h2 => by
    have := lo_most s
    unfold repsL
    rw [if_neg (by omega)]
  | f + 1, g + 1, n, h1, h2 => by
    have := lo_most s
    unfold repsL
    split
    · rw [repsL_fuel s f g _ (by omega) (by omega)]
    · rfl
theorem repsR_fuel (s : Nat) : ∀ f g n, n ≤ f → n ≤ g → repsR s f n = repsR s g n
  | 0, 0, _, _, _ => rfl
  | 0, g + 1, n, h1, h2 => by
    have := lo_most s
    unfold repsR
    rw [if_neg (by omega)]
  | f + 1, 0, n, h1, h2 => by
    have := lo_most s
    unfold repsR
    rw [if_neg (by omega)]
  | f + 1, g + 1, n, h1, h2 => by
    have := lo_most s
    unfold repsR
    split
    · rw [repsR_fuel s f g _ (by omega) (by omega)]
    · rfl
def repL (s n : Nat) : List (Nat × Nat) := repsL s n n
def repR (s n : Nat) : Nat := repsR s n n
theorem repL_step (s n : Nat) (h : loN s ≤ n) : repL s n = (s, min n (mostN s) - loN s) :: repL s (n - min n (mostN s)) := by
  have := lo_most s
  obtain ⟨m, rfl⟩ : ∃ m, n = m + 1 := ⟨n - 1, by omega⟩
  show repsL s (m + 1) (m + 1) = _
  rw [repsL, if_pos h]
  rw [repsL_fuel s m (m + 1 - min (m + 1) (mostN s)) _ (by omega) (Nat.le_refl _)]
  rfl
theorem repL_end (s n : Nat) (h : n < loN s) : repL s n = [] := by
  unfold repL
  cases n with
  | zero => rfl
  | succ m => rw [repsL, if_neg (by omega)]
theorem repR_step (s n : Nat) (h : loN s ≤ n) : repR s n = repR s (n - min n (mostN s)) := by
  have := lo_most s
  obtain ⟨m, rfl⟩ : ∃ m, n = m + 1 := ⟨n - 1, by omega⟩
  show repsR s (m + 1) (m + 1) = _
  rw [repsR, if_pos h]
  rw [repsR_fuel s m (m + 1 - min (m + 1) (mostN s)) _ (by omega) (Nat.le_refl _)]
  rfl
theorem repR_end (s n : Nat) (h : n < loN s) : repR s n = n := by
  unfold repR
  cases n with
  | zero => rfl
  | succ m => rw [repsR, if_neg (by omega)]
theorem repR_le (s : Nat) : ∀ n, repR s n ≤ n := by
  intro n
  induction n using Nat.strongRecOn with
  | _ n ih =>
    have := lo_most s
    by_cases h : loN s ≤ n
    · rw [repR_step s n h]
      have := ih (n - min n (mostN s)) (by omega)
      omega
    · rw [repR_end s n (by omega)]; exact Nat.le_refl _
theorem repR_lt (s : Nat) : ∀ n, repR s n < loN s := by
  intro n
  induction n using Nat.strongRecOn with
  | _ n ih =>
    have := lo_most s
    by_cases h : loN s ≤ n
    · rw [repR_step s n h]
      exact ih (n - min n (mostN s)) (by omega)
    · rw [repR_end s n (by omega)]; omega
theorem repL_len (s : Nat) : ∀ n, (repL s n).length + repR s n ≤ n := by
  intro n
  induction n using Nat.strongRecOn with
  | _ n ih =>
    have := lo_most s
    by_cases h : loN s ≤ n
    · rw [repR_step s n h, repL_step s n h, List.length_cons]
      have := ih (n - min n (mostN s)) (by omega)
      omega
    · rw [repR_end s n (by omega), repL_end s n (by omega)]; simp
/-- A run, as it is handed over. -/
def RunO : Type := {p : Nat × Nat // p.1 < 256 ∧ p.2 < 256}
def RunO.p (x : RunO) : Nat × Nat := x.1
def RunO.encs (x : RunO) : Array Value := #[.agg #[.int .u8 (x.p.1 : Int), .int .u8 (x.p.2 : Int)]]
set_option maxRecDepth 2000000 in
set_option maxHeartbeats 3200000 in
theorem repeats_16 (y : Nat) (J : List RunO → List Nat → World → Prop) (own : List Nat) (N B : Nat) (hJM : ∀ pre M X, J pre M X → ∀ i, i ∈ M → i < X.heap.size) (hJ : Stab own B J) (hY : ∀ pre x M W1, J pre M W1 → pre.length < N → ∀ m, YieldAt Fence.wide m Tryz.prog y (RunO.encs x) W1 (RoundQ y J pre x M W1))
    (m n : Nat) (hn : n ≤ 100000) (pre : List RunO) (M : List Nat) (W : World) (hW : J pre M W) (hN : pre.length + (repL 16 n).length ≤ N) (hy : y < W.heap.size) :
    CallsIn Fence.wide m Tryz.prog 92 #[.int .i64 (n : Int), .int .u8 16, .func (.yield y) #[] #[]] W fun e W' => e = .returned (.tuple #[.int .i64 ((repR 16 n : Nat) : Int), .bool true]) ∧ ∃ (ys : List RunO) (M' : List Nat), ys.map RunO.p = repL 16 n ∧ J (pre ++ ys) M' W' ∧ Fr (y :: M) W W' ∧ ∀ i, i ∈ M' → i ∈ M ∨ W.heap.size ≤ i := by
  have HB := Lib.hid (And.intro hJ (And.intro hY (And.intro hW (And.intro hN (And.intro (hJM pre M W hW) hy)))))
  have hni : (n : Int) ≤ 100000 := by omega
  clear hJM hJ hY hW hN hy hn
  refine callsIn_of_wp Tryz.func92 rfl trivial ?_ rfl
  simp only [Tryz.ntmps92, List.size_toArray, List.length_cons, List.length_nil, Nat.reduceAdd, Nat.reduceSub, Array.replicate_succ, Array.replicate_zero, List.push_toArray, List.append_toArray, List.nil_append, List.cons_append]
  gi_wp2_with fail
  refine ⟨trivial, fun h => absurd h (by simp [Fence.wide]), (callsIn_wide.2 (rows_ok W)).mono ?_⟩
  rintro e w1 ⟨rfl, f1⟩
  have F1 := Lib.hid f1
  clear f1
  gi_wp2_with fail
  rw [run_rows0]
  gi_wp2_with fail
  have b0 := alloc_last w1 (.cells #[.int .i64 3, .int .i64 2] 126)
  have k0 := cell_of b0 0
  have k1 := cell_of b0 1
  simp at k0 k1
  gi_quiet (fail)
  have FQ := Lib.hid (show Fr [] W ((w1.alloc (.cells #[.int .i64 3, .int .i64 2] 126)).drewN nq) ∧ ((w1.alloc (.cells #[.int .i64 3, .int .i64 2] 126)).drewN nq).heap[w1.heap.size]? = _ from ⟨(F1.out.trans (Fr.alloc _ _ _)).trans (Fr.drewN _ _ _), b0⟩)
  clear k0 k1 b0
  generalize (w1.alloc (.cells #[.int .i64 3, .int .i64 2] 126)).drewN nq = V at *
  gi_wp2_with fail
  gi_loopw [0, 10] (fun v0 _ wr => ∃ (k : Nat) (ys : List RunO) (Mk : List Nat), v0 = .int .i64 (k : Int) ∧ k ≤ n ∧ Hid (ys.map RunO.p ++ repL 16 k = repL 16 n ∧ repR 16 k = repR 16 n) ∧ J (pre ++ ys) Mk wr ∧ wr.heap[w1.heap.size]? = some (.cells #[.int .i64 3, .int .i64 2] 126 (0, 0)) ∧ Hid (Fr (y :: M) W wr ∧ (∀ i, i ∈ Mk → i ∈ M ∨ W.heap.size ≤ i) ∧ w1.heap.size ∉ Mk)) (fun v0 _ _ => (intOf v0).toNat)
  case atStart => exact ⟨n, [], M, rfl, Nat.le_refl _, Lib.hid ⟨rfl, rfl⟩, by rw [List.append_nil]; exact J_fr HB.out.1 HB.out.2.2.1 FQ.out.1, FQ.out.2, Lib.hid ⟨FQ.out.1.nil, fun i hi => .inl hi, fun h => by have h1 := HB.out.2.2.2.2.1 _ h; have h2 := F1.out.size; omega⟩⟩
  case round =>
    obtain ⟨k, ys, Mk, rfl, hk, hp, hj, hbx, hkp⟩ := hrel
    have k0 := cell_of hbx 0
    simp at k0
    by_cases hlo : 3 ≤ k
    · have hloi : 3 ≤ (k : Int) := by omega
      have hki : (k : Int) ≤ 100000 := by omega
      obtain ⟨q, hq⟩ : ∃ q, min k 6 = q := ⟨_, rfl⟩
      have hql : 3 ≤ q := by omega
      have hqk : q ≤ k := by omega
      have hqm : q ≤ 6 := by omega
      have hlen : ys.length + (repL 16 k).length = (repL 16 n).length := by have h1 := congrArg List.length hp.out.1; rw [List.length_append, List.length_map] at h1; exact h1
      have h2 := repL_step 16 k (by rw [show loN 16 = 3 by decide]; exact hlo)
      have h3 := repR_step 16 k (by rw [show loN 16 = 3 by decide]; exact hlo)
      rw [show loN 16 = 3 by decide, show mostN 16 = 6 by decide, hq] at h2
      rw [show mostN 16 = 6 by decide, hq] at h3
      obtain ⟨u, hu⟩ : ∃ u, q - 3 = u := ⟨_, rfl⟩
      rw [hu] at h2
      have eu : (q : Int) - 3 = (u : Int) := by omega
      have hui : (u : Int) ≤ 255 := by omega
      obtain ⟨x0, hx0⟩ : ∃ x0 : RunO, x0.p = (16, u) := ⟨⟨(16, u), by simp only; omega⟩, rfl⟩
      have he : x0.encs = #[.agg #[.int .u8 16, .int .u8 (u : Int)]] := by unfold RunO.encs; rw [hx0]; rfl
      obtain ⟨fn, tmps, assign, body, hy, hR⟩ := HB.out.2.1 (pre ++ ys) x0 Mk wr hj (by have := HB.out.2.2.2.1; rw [h2, List.length_cons] at hlen; rw [List.length_append]; omega) (m - 1)
      rw [he] at hy
      have HR := Lib.hid hR
      have HP := Lib.hid (show (ys ++ [x0]).map RunO.p ++ repL 16 (k - q) = repL 16 n ∧ repR 16 (k - q) = repR 16 n from ⟨by rw [← hp.out.1, h2, List.map_append]; simp [hx0], by rw [← h3]; exact hp.out.2⟩)
      obtain ⟨k', hk'⟩ : ∃ k', k - q = k' := ⟨_, rfl⟩
      rw [hk'] at HP
      have ek : (k : Int) - (q : Int) = (k' : Int) := by omega
      have HK := Lib.hid (And.intro hkp (And.intro hbx (show k' < k ∧ k' ≤ n by omega)))
      have emin : min (k : Int) 6 = (q : Int) := by omega
      have hqi : (q : Int) ≤ 6 := by omega
      have hqi2 : (q : Int) ≤ (k : Int) := by omega
      have hqi3 : 3 ≤ (q : Int) := by omega
      clear hR h2 h3 hp hj hkp hbx hlen he hx0 hu hk' hq hql hqk hqm
      gi_wp2_with fail
      refine ⟨fun h => absurd h (by simp [Fence.wide]), HR.out.mono ?_⟩
      rintro e W5 ⟨rfl, M5, hJ5, hf5, hm5⟩
      have hyW := HB.out.2.2.2.2.2
      have hsz := F1.out.size
      have hbz := lt_of HK.out.2.1
      obtain ⟨q1, q2, q3⟩ := HK.out.1.out
      have hq1 := q1.size
      have H5 := Lib.hid (And.intro hJ5 (And.intro (hf5.blk HK.out.2.1 (by simp; exact ⟨by omega, q3⟩)) (And.intro (hf5.outL q1 (by
        intro i hi
        rcases List.mem_cons.1 hi with rfl | hi
        · left; simp
        · rcases q2 i hi with h | h
          · left; simp [h]
          · right; exact h)) (And.intro (show ∀ i, i ∈ M5 → i ∈ M ∨ W.heap.size ≤ i from fun i hi => by
        rcases hm5 i hi with h | h
        · exact q2 i h
        · right; omega) (show w1.heap.size ∉ M5 from fun h => by
        rcases hm5 _ h with h | h
        · exact q3 h
        · omega)))))
      clear hJ5 hf5 hm5 hy k0 q1 q2 q3 hyW hsz hbz hq1
      gi_wp2_with fail
      go_roundw
      case rel => exact ⟨k', ys ++ [x0], M5, rfl, HK.out.2.2.2, Lib.hid HP.out, by rw [← List.append_assoc]; exact H5.out.1, H5.out.2.1, Lib.hid H5.out.2.2⟩
      case measure => simp [intOf]; have := HK.out.2.2.1; omega
    · have HE := Lib.hid (And.intro (show ys.map RunO.p = repL 16 n by have h1 := hp.out.1; rw [repL_end 16 k (by rw [show loN 16 = 3 by decide]; omega), List.append_nil] at h1; exact h1) (show repR 16 n = k by rw [← hp.out.2, repR_end 16 k (by rw [show loN 16 = 3 by decide]; omega)]))
      have hloi : (k : Int) < 3 := by omega
      have HJ := Lib.hid (And.intro hj hkp)
      clear hp hj hkp
      gi_wp2_with fail
      go_ret2
      exact ⟨by rw [HE.out.2]; rfl, ys, Mk, HE.out.1, HJ.out.1, HJ.out.2.out.1, HJ.out.2.out.2.1⟩
set_option maxRecDepth 2000000 in
set_option maxHeartbeats 3200000 in
theorem repeats_17 (y : Nat) (J : List RunO → List Nat → World → Prop) (own : List Nat) (N B : Nat) (hJM : ∀ pre M X, J pre M X → ∀ i, i ∈ M → i < X.heap.size) (hJ : Stab own B J) (hY : ∀ pre x M W1, J pre M W1 → pre.length < N → ∀ m, YieldAt Fence.wide m Tryz.prog y (RunO.encs x) W1 (RoundQ y J pre x M W1))
    (m n : Nat) (hn : n ≤ 100000) (pre : List RunO) (M : List Nat) (W : World) (hW : J pre M W) (hN : pre.length + (repL 17 n).length ≤ N) (hy : y < W.heap.size) :
    CallsIn Fence.wide m Tryz.prog 92 #[.int .i64 (n : Int), .int .u8 17, .func (.yield y) #[] #[]] W fun e W' => e = .returned (.tuple #[.int .i64 ((repR 17 n : Nat) : Int), .bool true]) ∧ ∃ (ys : List RunO) (M' : List Nat), ys.map RunO.p = repL 17 n ∧ J (pre ++ ys) M' W' ∧ Fr (y :: M) W W' ∧ ∀ i, i ∈ M' → i ∈ M ∨ W.heap.size ≤ i := by
  have HB := Lib.hid (And.intro hJ (And.intro hY (And.intro hW (And.intro hN (And.intro (hJM pre M W hW) hy)))))
  have hni : (n : Int) ≤ 100000 := by omega
  clear hJM hJ hY hW hN hy hn
  refine callsIn_of_wp Tryz.func92 rfl trivial ?_ rfl
  simp only [Tryz.ntmps92, List.size_toArray, List.length_cons, List.length_nil, Nat.reduceAdd, Nat.reduceSub, Array.replicate_succ, Array.replicate_zero, List.push_toArray, List.append_toArray, List.nil_append, List.cons_append]
  gi_wp2_with fail
  refine ⟨trivial, fun h => absurd h (by simp [Fence.wide]), (callsIn_wide.2 (rows_ok W)).mono ?_⟩
  rintro e w1 ⟨rfl, f1⟩
  have F1 := Lib.hid f1
  clear f1
  gi_wp2_with fail
  rw [run_rows1]
  gi_wp2_with fail
  have b0 := alloc_last w1 (.cells #[.int .i64 3, .int .i64 3] 126)
  have k0 := cell_of b0 0
  have k1 := cell_of b0 1
  simp at k0 k1
  gi_quiet (fail)
  have FQ := Lib.hid (show Fr [] W ((w1.alloc (.cells #[.int .i64 3, .int .i64 3] 126)).drewN nq) ∧ ((w1.alloc (.cells #[.int .i64 3, .int .i64 3] 126)).drewN nq).heap[w1.heap.size]? = _ from ⟨(F1.out.trans (Fr.alloc _ _ _)).trans (Fr.drewN _ _ _), b0⟩)
  clear k0 k1 b0
  generalize (w1.alloc (.cells #[.int .i64 3, .int .i64 3] 126)).drewN nq = V at *
  gi_wp2_with fail
  gi_loopw [0, 10] (fun v0 _ wr => ∃ (k : Nat) (ys : List RunO) (Mk : List Nat), v0 = .int .i64 (k : Int) ∧ k ≤ n ∧ Hid (ys.map RunO.p ++ repL 17 k = repL 17 n ∧ repR 17 k = repR 17 n) ∧ J (pre ++ ys) Mk wr ∧ wr.heap[w1.heap.size]? = some (.cells #[.int .i64 3, .int .i64 3] 126 (0, 0)) ∧ Hid (Fr (y :: M) W wr ∧ (∀ i, i ∈ Mk → i ∈ M ∨ W.heap.size ≤ i) ∧ w1.heap.size ∉ Mk)) (fun v0 _ _ => (intOf v0).toNat)
  case atStart => exact ⟨n, [], M, rfl, Nat.le_refl _, Lib.hid ⟨rfl, rfl⟩, by rw [List.append_nil]; exact J_fr HB.out.1 HB.out.2.2.1 FQ.out.1, FQ.out.2, Lib.hid ⟨FQ.out.1.nil, fun i hi => .inl hi, fun h => by have h1 := HB.out.2.2.2.2.1 _ h; have h2 := F1.out.size; omega⟩⟩
  case round =>
    obtain ⟨k, ys, Mk, rfl, hk, hp, hj, hbx, hkp⟩ := hrel
    have k0 := cell_of hbx 0
    simp at k0
    by_cases hlo : 3 ≤ k
    · have hloi : 3 ≤ (k : Int) := by omega
      have hki : (k : Int) ≤ 100000 := by omega
      obtain ⟨q, hq⟩ : ∃ q, min k 10 = q := ⟨_, rfl⟩
      have hql : 3 ≤ q := by omega
      have hqk : q ≤ k := by omega
      have hqm : q ≤ 10 := by omega
      have hlen : ys.length + (repL 17 k).length = (repL 17 n).length := by have h1 := congrArg List.length hp.out.1; rw [List.length_append, List.length_map] at h1; exact h1
      have h2 := repL_step 17 k (by rw [show loN 17 = 3 by decide]; exact hlo)
      have h3 := repR_step 17 k (by rw [show loN 17 = 3 by decide]; exact hlo)
      rw [show loN 17 = 3 by decide, show mostN 17 = 10 by decide, hq] at h2
      rw [show mostN 17 = 10 by decide, hq] at h3
      obtain ⟨u, hu⟩ : ∃ u, q - 3 = u := ⟨_, rfl⟩
      rw [hu] at h2
      have eu : (q : Int) - 3 = (u : Int) := by omega
      have hui : (u : Int) ≤ 255 := by omega
      obtain ⟨x0, hx0⟩ : ∃ x0 : RunO, x0.p = (17, u) := ⟨⟨(17, u), by simp only; omega⟩, rfl⟩
      have he : x0.encs = #[.agg #[.int .u8 17, .int .u8 (u : Int)]] := by unfold RunO.encs; rw [hx0]; rfl
      obtain ⟨fn, tmps, assign, body, hy, hR⟩ := HB.out.2.1 (pre ++ ys) x0 Mk wr hj (by have := HB.out.2.2.2.1; rw [h2, List.length_cons] at hlen; rw [List.length_append]; omega) (m - 1)
      rw [he] at hy
      have HR := Lib.hid hR
      have HP := Lib.hid (show (ys ++ [x0]).map RunO.p ++ repL 17 (k - q) = repL 17 n ∧ repR 17 (k - q) = repR 17 n from ⟨by rw [← hp.out.1, h2, List.map_append]; simp [hx0], by rw [← h3]; exact hp.out.2⟩)
      obtain ⟨k', hk'⟩ : ∃ k', k - q = k' := ⟨_, rfl⟩
      rw [hk'] at HP
      have ek : (k : Int) - (q : Int) = (k' : Int) := by omega
      have HK := Lib.hid (And.intro hkp (And.intro hbx (show k' < k ∧ k' ≤ n by omega)))
      have emin : min (k : Int) 10 = (q : Int) := by omega
      have hqi : (q : Int) ≤ 10 := by omega
      have hqi2 : (q : Int) ≤ (k : Int) := by omega
      have hqi3 : 3 ≤ (q : Int) := by omega
      clear hR h2 h3 hp hj hkp hbx hlen he hx0 hu hk' hq hql hqk hqm
      gi_wp2_with fail
      refine ⟨fun h => absurd h (by simp [Fence.wide]), HR.out.mono ?_⟩
      rintro e W5 ⟨rfl, M5, hJ5, hf5, hm5⟩
      have hyW := HB.out.2.2.2.2.2
      have hsz := F1.out.size
      have hbz := lt_of HK.out.2.1
      obtain ⟨q1, q2, q3⟩ := HK.out.1.out
      have hq1 := q1.size
      have H5 := Lib.hid (And.intro hJ5 (And.intro (hf5.blk HK.out.2.1 (by simp; exact ⟨by omega, q3⟩)) (And.intro (hf5.outL q1 (by
        intro i hi
        rcases List.mem_cons.1 hi with rfl | hi
        · left; simp
        · rcases q2 i hi with h | h
          · left; simp [h]
          · right; exact h)) (And.intro (show ∀ i, i ∈ M5 → i ∈ M ∨ W.heap.size ≤ i from fun i hi => by
        rcases hm5 i hi with h | h
        · exact q2 i h
        · right; omega) (show w1.heap.size ∉ M5 from fun h => by
        rcases hm5 _ h with h | h
        · exact q3 h
        · omega)))))
      clear hJ5 hf5 hm5 hy k0 q1 q2 q3 hyW hsz hbz hq1
      gi_wp2_with fail
      go_roundw
      case rel => exact ⟨k', ys ++ [x0], M5, rfl, HK.out.2.2.2, Lib.hid HP.out, by rw [← List.append_assoc]; exact H5.out.1, H5.out.2.1, Lib.hid H5.out.2.2⟩
      case measure => simp [intOf]; have := HK.out.2.2.1; omega
    · have HE := Lib.hid (And.intro (show ys.map RunO.p = repL 17 n by have h1 := hp.out.1; rw [repL_end 17 k (by rw [show loN 17 = 3 by decide]; omega), List.append_nil] at h1; exact h1) (show repR 17 n = k by rw [← hp.out.2, repR_end 17 k (by rw [show loN 17 = 3 by decide]; omega)]))
      have hloi : (k : Int) < 3 := by omega
      have HJ := Lib.hid (And.intro hj hkp)
      clear hp hj hkp
      gi_wp2_with fail
      go_ret2
      exact ⟨by rw [HE.out.2]; rfl, ys, Mk, HE.out.1, HJ.out.1, HJ.out.2.out.1, HJ.out.2.out.2.1⟩
set_option maxRecDepth 2000000 in
set_option maxHeartbeats 3200000 in
theorem repeats_18 (y : Nat) (J : List RunO → List Nat → World → Prop) (own : List Nat) (N B : Nat) (hJM : ∀ pre M X, J pre M X → ∀ i, i ∈ M → i < X.heap.size) (hJ : Stab own B J) (hY : ∀ pre x M W1, J pre M W1 → pre.length < N → ∀ m, YieldAt Fence.wide m Tryz.prog y (RunO.encs x) W1 (RoundQ y J pre x M W1))
    (m n : Nat) (hn : n ≤ 100000) (pre : List RunO) (M : List Nat) (W : World) (hW : J pre M W) (hN : pre.length + (repL 18 n).length ≤ N) (hy : y < W.heap.size) :
    CallsIn Fence.wide m Tryz.prog 92 #[.int .i64 (n : Int), .int .u8 18, .func (.yield y) #[] #[]] W fun e W' => e = .returned (.tuple #[.int .i64 ((repR 18 n : Nat) : Int), .bool true]) ∧ ∃ (ys : List RunO) (M' : List Nat), ys.map RunO.p = repL 18 n ∧ J (pre ++ ys) M' W' ∧ Fr (y :: M) W W' ∧ ∀ i, i ∈ M' → i ∈ M ∨ W.heap.size ≤ i := by
  have HB := Lib.hid (And.intro hJ (And.intro hY (And.intro hW (And.intro hN (And.intro (hJM pre M W hW) hy)))))
  have hni : (n : Int) ≤ 100000 := by omega
  clear hJM hJ hY hW hN hy hn
  refine callsIn_of_wp Tryz.func92 rfl trivial ?_ rfl
  simp only [Tryz.ntmps92, List.size_toArray, List.length_cons, List.length_nil, Nat.reduceAdd, Nat.reduceSub, Array.replicate_succ, Array.replicate_zero, List.push_toArray, List.append_toArray, List.nil_append, List.cons_append]
  gi_wp2_with fail
  refine ⟨trivial, fun h => absurd h (by simp [Fence.wide]), (callsIn_wide.2 (rows_ok W)).mono ?_⟩
  rintro e w1 ⟨rfl, f1⟩
  have F1 := Lib.hid f1
  clear f1
  gi_wp2_with fail
  rw [run_rows2]
  gi_wp2_with fail
  have b0 := alloc_last w1 (.cells #[.int .i64 11, .int .i64 7] 126)
  have k0 := cell_of b0 0
  have k1 := cell_of b0 1
  simp at k0 k1
  gi_quiet (fail)
  have FQ := Lib.hid (show Fr [] W ((w1.alloc (.cells #[.int .i64 11, .int .i64 7] 126)).drewN nq) ∧ ((w1.alloc (.cells #[.int .i64 11, .int .i64 7] 126)).drewN nq).heap[w1.heap.size]? = _ from ⟨(F1.out.trans (Fr.alloc _ _ _)).trans (Fr.drewN _ _ _), b0⟩)
  clear k0 k1 b0
  generalize (w1.alloc (.cells #[.int .i64 11, .int .i64 7] 126)).drewN nq = V at *
  gi_wp2_with fail
  gi_loopw [0, 10] (fun v0 _ wr => ∃ (k : Nat) (ys : List RunO) (Mk : List Nat), v0 = .int .i64 (k : Int) ∧ k ≤ n ∧ Hid (ys.map RunO.p ++ repL 18 k = repL 18 n ∧ repR 18 k = repR 18 n) ∧ J (pre ++ ys) Mk wr ∧ wr.heap[w1.heap.size]? = some (.cells #[.int .i64 11, .int .i64 7] 126 (0, 0)) ∧ Hid (Fr (y :: M) W wr ∧ (∀ i, i ∈ Mk → i ∈ M ∨ W.heap.size ≤ i) ∧ w1.heap.size ∉ Mk)) (fun v0 _ _ => (intOf v0).toNat)
  case atStart => exact ⟨n, [], M, rfl, Nat.le_refl _, Lib.hid ⟨rfl, rfl⟩, by rw [List.append_nil]; exact J_fr HB.out.1 HB.out.2.2.1 FQ.out.1, FQ.out.2, Lib.hid ⟨FQ.out.1.nil, fun i hi => .inl hi, fun h => by have h1 := HB.out.2.2.2.2.1 _ h; have h2 := F1.out.size; omega⟩⟩
  case round =>
    obtain ⟨k, ys, Mk, rfl, hk, hp, hj, hbx, hkp⟩ := hrel
    have k0 := cell_of hbx 0
    simp at k0
    by_cases hlo : 11 ≤ k
    · have hloi : 11 ≤ (k : Int) := by omega
      have hki : (k : Int) ≤ 100000 := by omega
      obtain ⟨q, hq⟩ : ∃ q, min k 138 = q := ⟨_, rfl⟩
      have hql : 11 ≤ q := by omega
      have hqk : q ≤ k := by omega
      have hqm : q ≤ 138 := by omega
      have hlen : ys.length + (repL 18 k).length = (repL 18 n).length := by have h1 := congrArg List.length hp.out.1; rw [List.length_append, List.length_map] at h1; exact h1
      have h2 := repL_step 18 k (by rw [show loN 18 = 11 by decide]; exact hlo)
      have h3 := repR_step 18 k (by rw [show loN 18 = 11 by decide]; exact hlo)
      rw [show loN 18 = 11 by decide, show mostN 18 = 138 by decide, hq] at h2
      rw [show mostN 18 = 138 by decide, hq] at h3
      obtain ⟨u, hu⟩ : ∃ u, q - 11 = u := ⟨_, rfl⟩
      rw [hu] at h2
      have eu : (q : Int) - 11 = (u : Int) := by omega
      have hui : (u : Int) ≤ 255 := by omega
      obtain ⟨x0, hx0⟩ : ∃ x0 : RunO, x0.p = (18, u) := ⟨⟨(18, u), by simp only; omega⟩, rfl⟩
      have he : x0.encs = #[.agg #[.int .u8 18, .int .u8 (u : Int)]] := by unfold RunO.encs; rw [hx0]; rfl
      obtain ⟨fn, tmps, assign, body, hy, hR⟩ := HB.out.2.1 (pre ++ ys) x0 Mk wr hj (by have := HB.out.2.2.2.1; rw [h2, List.length_cons] at hlen; rw [List.length_append]; omega) (m - 1)
      rw [he] at hy
      have HR := Lib.hid hR
      have HP := Lib.hid (show (ys ++ [x0]).map RunO.p ++ repL 18 (k - q) = repL 18 n ∧ repR 18 (k - q) = repR 18 n from ⟨by rw [← hp.out.1, h2, List.map_append]; simp [hx0], by rw [← h3]; exact hp.out.2⟩)
      obtain ⟨k', hk'⟩ : ∃ k', k - q = k' := ⟨_, rfl⟩
      rw [hk'] at HP
      have ek : (k : Int) - (q : Int) = (k' : Int) := by omega
      have HK := Lib.hid (And.intro hkp (And.intro hbx (show k' < k ∧ k' ≤ n by omega)))
      have emin : min (k : Int) 138 = (q : Int) := by omega
      have hqi : (q : Int) ≤ 138 := by omega
      have hqi2 : (q : Int) ≤ (k : Int) := by omega
      have hqi3 : 11 ≤ (q : Int) := by omega
      clear hR h2 h3 hp hj hkp hbx hlen he hx0 hu hk' hq hql hqk hqm
      gi_wp2_with fail
      refine ⟨fun h => absurd h (by simp [Fence.wide]), HR.out.mono ?_⟩
      rintro e W5 ⟨rfl, M5, hJ5, hf5, hm5⟩
      have hyW := HB.out.2.2.2.2.2
      have hsz := F1.out.size
      have hbz := lt_of HK.out.2.1
      obtain ⟨q1, q2, q3⟩ := HK.out.1.out
      have hq1 := q1.size
      have H5 := Lib.hid (And.intro hJ5 (And.intro (hf5.blk HK.out.2.1 (by simp; exact ⟨by omega, q3⟩)) (And.intro (hf5.outL q1 (by
        intro i hi
        rcases List.mem_cons.1 hi with rfl | hi
        · left; simp
        · rcases q2 i hi with h | h
          · left; simp [h]
          · right; exact h)) (And.intro (show ∀ i, i ∈ M5 → i ∈ M ∨ W.heap.size ≤ i from fun i hi => by
        rcases hm5 i hi with h | h
        · exact q2 i h
        · right; omega) (show w1.heap.size ∉ M5 from fun h => by
        rcases hm5 _ h with h | h
        · exact q3 h
        · omega)))))
      clear hJ5 hf5 hm5 hy k0 q1 q2 q3 hyW hsz hbz hq1
      gi_wp2_with fail
      go_roundw
      case rel => exact ⟨k', ys ++ [x0], M5, rfl, HK.out.2.2.2, Lib.hid HP.out, by rw [← List.append_assoc]; exact H5.out.1, H5.out.2.1, Lib.hid H5.out.2.2⟩
      case measure => simp [intOf]; have := HK.out.2.2.1; omega
    · have HE := Lib.hid (And.intro (show ys.map RunO.p = repL 18 n by have h1 := hp.out.1; rw [repL_end 18 k (by rw [show loN 18 = 11 by decide]; omega), List.append_nil] at h1; exact h1) (show repR 18 n = k by rw [← hp.out.2, repR_end 18 k (by rw [show loN 18 = 11 by decide]; omega)]))
      have hloi : (k : Int) < 11 := by omega
      have HJ := Lib.hid (And.intro hj hkp)
      clear hp hj hkp
      gi_wp2_with fail
      go_ret2
      exact ⟨by rw [HE.out.2]; rfl, ys, Mk, HE.out.1, HJ.out.1, HJ.out.2.out.1, HJ.out.2.out.2.1⟩
end Go.Proofs.YtciejmlhdmjajaaGreat
namespace Go.Proofs.YtciejmlhdmjajaaGreat
open Go.RowKit Go.Shelf
set_option linter.unusedVariables false
set_option linter.unusedSimpArgs false
attribute [local go_sem] Oper.semAt_some

def runL (v n : Nat) : List (Nat × Nat) :=
  if v = 0 then repL 18 n ++ (repL 17 (repR 18 n) ++ List.replicate (repR 17 (repR 18 n)) (0, 0))
  else (v, 0) :: (repL 16 (n - 1) ++ List.replicate (repR 16 (n - 1)) (v, 0))
def sameN (v : Nat) : List Nat → Nat
  | [] => 0
  | x :: l => if x = v then sameN v l + 1 else 0
theorem sameN_le (v : Nat) : ∀ l, sameN v l ≤ l.length
  | [] => Nat.le_refl _
  | x :: l => by unfold sameN; have := sameN_le v l; split <;> simp <;> omega
theorem sameN_get (v : Nat) : ∀ l i, i < sameN v l → l[i]? = some v
  | [], i, h => by simp [sameN] at h
  | x :: l, i, h => by
    unfold sameN at h
    split at h
    · cases i with
      | zero => subst_vars; rfl
      | succ i => simpa using sameN_get v l i (by omega)
    · omega
theorem sameN_stop (v : Nat) : ∀ l, sameN v l < l.length → ∃ y, l[sameN v l]? = some y ∧ y ≠ v
  | [], h => by simp [sameN] at h
  | x :: l, h => by
    unfold sameN at h ⊢
    split
    · rename_i hx
      rw [if_pos hx] at h
      obtain ⟨y, h1, h2⟩ := sameN_stop v l (by simpa using h)
      exact ⟨y, by simpa using h1, h2⟩
    · rename_i hx
      exact ⟨x, rfl, hx⟩
def packF : Nat → List Nat → List (Nat × Nat)
  | 0, _ => []
  | _, [] => []
  | f + 1, v :: l => runL v (sameN v l + 1) ++ packF f (l.drop (sameN v l))
def packL (l : List Nat) : List (Nat × Nat) := packF l.length l
theorem packF_fuel : ∀ f g l, l.length ≤ f → l.length ≤ g → packF f l = packF g l
  | 0, 0, l, _, _ => rfl
  | 0, g + 1, l, h, _ => by
    have : l = [] := List.length_eq_zero_iff.1 (by omega)
    subst this; rfl
  | f + 1, 0, l, _, h => by
    have : l = [] := List.length_eq_zero_iff.1 (by omega)
    subst this; rfl
  | f + 1, g + 1, [], _, _ => rfl
  | f + 1, g + 1, v :: l, h1, h2 => by
    simp only [packF]
    rw [packF_fuel f g _ (by rw [List.length_drop]; simp at h1; omega) (by rw [List.length_drop]; simp at h2; omega)]
theorem packL_cons (v : Nat) (l : List Nat) : packL (v :: l) = runL v (sameN v l + 1) ++ packL (l.drop (sameN v l)) := by
  show packF (l.length + 1) (v :: l) = _
  simp only [packF]
  rw [packF_fuel l.length (l.drop (sameN v l)).length _ (by rw [List.length_drop]; omega) (Nat.le_refl _)]
  rfl
theorem runL_len (v n : Nat) (hn : 1 ≤ n) : (runL v n).length ≤ n := by
  unfold runL
  split
  · have h1 := repL_len 18 n
    have h2 := repL_len 17 (repR 18 n)
    rw [List.length_append, List.length_append, List.length_replicate]
    omega
  · have h1 := repL_len 16 (n - 1)
    rw [List.length_cons, List.length_append, List.length_replicate]
    omega
theorem packL_len : ∀ l : List Nat, (packL l).length ≤ l.length := by
  intro l
  generalize hn : l.length = n
  induction n using Nat.strongRecOn generalizing l with
  | _ n ih =>
    cases l with
    | nil => simp [packL, packF]
    | cons v l =>
      rw [packL_cons, List.length_append]
      have h1 := runL_len v (sameN v l + 1) (by omega)
      have h2 := sameN_le v l
      simp at hn
      have h3 := ih (l.drop (sameN v l)).length (by rw [List.length_drop]; omega) _ rfl
      rw [List.length_drop] at h3
      omega
/-- How long the slice in a box is. -/
def boxLen (w : World) (x : Nat) : Nat := match w.cell? ⟨x, 0, none⟩ with
  | some (.slice _ n _) => n
  | _ => 0
theorem boxLen_of {w : World} {x : Nat} {a : Option Addr} {n c : Nat} {T : TypeId} (h : w.heap[x]? = some (.cells #[.slice a n c] T (0, 0))) : boxLen w x = n := by
  unfold boxLen
  rw [cell_of h 0]
  rfl
set_option maxRecDepth 2000000 in
set_option maxHeartbeats 3200000 in
theorem told_iter (n : Nat) (a : Option Addr) (c : Nat) (l : List Nat) (x : Nat) (w : World) (hs : SlOf U8 1 w a l) (hc : l.length ≤ c) (hl : l.length ≤ 10000) (h8 : ∀ v ∈ l, v < 256) (hx : w.heap[x]? = some (.cells #[.slice a l.length c] 36 (0, 0))) (hxa : x ∉ tokB a l) :
    IterF n Tryz.prog 91 #[.pointer (some ⟨x, 0, none⟩)] RunO.encs [x] (tokB a l) (fun ys => ys.map RunO.p = packL l) l.length w := fun y J M0 W hW hyl hyW hM hJM hJ hY h0 => by
  have hxW : W.heap[x]? = some (.cells #[.slice a l.length c] 36 (0, 0)) := (hW.block x (lt_of hx)).trans hx
  have hsW := hs.below hW
  have hS : ∀ k, k ∈ x :: tokB a l → k < w.heap.size := fun k hk => by
    rcases List.mem_cons.1 hk with rfl | hk
    · exact lt_of hx
    · exact hs.lt k hk
  have hsz := hW.size
  have HB := Lib.hid (And.intro hJ (And.intro hY (And.intro hS (And.intro hyl (And.intro hsz (And.intro hxa (And.intro hc (And.intro h8 (And.intro hl hJM)))))))))
  have HS := Lib.hid (And.intro hxW (And.intro hsW (And.intro h0 fun i hi => hM i hi)))
  clear hx hxW hsW hY hJ hW hs hS hyl hM h0 hsz hxa hc h8 hl hJM
  refine callsIn_of_wp Tryz.func91 rfl trivial ?_ rfl
  simp only [Tryz.ntmps91, List.size_toArray, List.length_cons, List.length_nil, Nat.reduceAdd, Nat.reduceSub, Array.replicate_succ, Array.replicate_zero, List.push_toArray, List.append_toArray, List.nil_append, List.cons_append]
  gi_wp2_with fail
  gi_loopw [3, 4, 5] (fun v3 v4 v5 wr => ∃ (pre : List RunO) (M : List Nat) (rest : List Nat) (a' : Option Addr) (c' : Nat), Hid (pre.map RunO.p ++ packL rest = packL l) ∧ J pre M wr ∧ wr.heap[x]? = some (.cells #[.slice a' rest.length c'] 36 (0, 0)) ∧ SlOf U8 1 wr a' rest ∧ rest.length ≤ c' ∧ rest.length ≤ l.length ∧ Hid ((∀ v, v ∈ rest → v < 256) ∧ (∀ i, i ∈ M → i < wr.heap.size ∧ i ∉ x :: tokB a l) ∧ (∀ i, i ∈ tokB a' rest → i ∈ tokB a l) ∧ W.heap.size ≤ wr.heap.size)) (fun _ _ _ wr => boxLen wr x)
  case atStart => exact ⟨[], M0, l, a, c, Lib.hid rfl, HS.out.2.2.1, HS.out.1, HS.out.2.1, HB.out.2.2.2.2.2.2.1, Nat.le_refl _, Lib.hid ⟨HB.out.2.2.2.2.2.2.2.1, fun i hi => ⟨(HS.out.2.2.2 i hi).2.2, by have := HS.out.2.2.2 i hi; simp at this ⊢; exact ⟨this.1, this.2.1⟩⟩, fun i hi => hi, Nat.le_refl _⟩⟩
  case round =>
    obtain ⟨pre, M, rest, a', c', hp, hj, hxr, hsr, hcr, hlr, hq⟩ := hrel
    have kx := cell_of hxr 0
    simp at kx
    cases rest with
    | nil =>
      have HE := Lib.hid (And.intro (show pre.map RunO.p = packL l by have := hp.out; simpa [packL, packF] using this) hj)
      simp only [List.length_nil] at kx
      clear hp hj hxr hsr hcr hlr hq
      gi_wp2_with fail
      go_end0
      exact ⟨⟨_, rfl⟩, pre, M, HE.out.1, HE.out.2⟩
    | cons v rest =>
      obtain ⟨b, o, rfl, hbl, hcell⟩ := hsr (by simp)
      obtain ⟨q8, qM, qB, qW⟩ := hq.out
      have c0 := hcell 0 v rfl 0 (.int .u8 (v : Int)) rfl
      simp only [Nat.zero_mul, Nat.add_zero] at c0
      have hv8 : (v : Int) ≤ 255 := by have := q8 v (by simp); omega
      obtain ⟨L, hL⟩ : ∃ L, (v :: rest).length = L := ⟨_, rfl⟩
      rw [hL] at kx hxr hcr hlr
      have hL1 : 1 ≤ (L : Int) := by simp at hL; omega
      have hLl : (L : Int) ≤ 10000 := by have := HB.out.2.2.2.2.2.2.2.2.1; omega
      have HC := Lib.hid hcell
      have HH := Lib.hid (And.intro hp.out (And.intro hj (And.intro hxr (And.intro hcr (And.intro hlr (And.intro hL (And.intro q8 (And.intro qM (And.intro qB qW)))))))))
      have hsr := Lib.hid hsr
      clear hp hj hxr hcr hlr hq q8 qM qB qW hcell
      gi_upto_region 2 with fail
      gi_step
      gi_step
      go_simp
      gi_step
      go_simp
      gi_step
      gi_step
      gi_step
      gi_step
      gi_cut [4] from 12 (fun v4 wz => v4 = .int .i64 ((sameN v rest + 1 : Nat) : Int) ∧ wz = wr)
      case first =>
        gi_step
        gi_loopw [4] (fun v4 wz => ∃ k : Nat, v4 = .int .i64 (k : Int) ∧ 1 ≤ k ∧ k ≤ sameN v rest + 1 ∧ wz = wr) (fun v4 _ => L - (intOf v4).toNat)
        case atStart => exact ⟨1, rfl, by omega, by omega, rfl⟩
        case round =>
          obtain ⟨k, rfl, hk1, hks, rfl⟩ := hrel
          have hsl := sameN_le v rest
          have hLr : L = rest.length + 1 := by have := HH.out.2.2.2.2.2.1; simpa using this.symm
          by_cases hkL : k < L
          · have hki : (k : Int) < (L : Int) := by omega
            obtain ⟨j, rfl⟩ : ∃ j, k = j + 1 := ⟨k - 1, by omega⟩
            obtain ⟨z, hz⟩ : ∃ z, rest[j]? = some z := ⟨rest[j]'(by omega), List.getElem?_eq_getElem _⟩
            have ck := HC.out (j + 1) z (by simpa using hz) 0 (.int .u8 (z : Int)) rfl
            rw [Nat.mul_one, Nat.add_zero] at ck
            obtain ⟨k, hkj⟩ : ∃ k, j + 1 = k := ⟨_, rfl⟩
            by_cases hzv : z = v
            · subst hzv
              have hkn : j + 1 ≤ sameN z rest := by
                rcases Nat.lt_or_ge j (sameN z rest) with h | h
                · omega
                · exfalso
                  have h1 : sameN z rest = j := by omega
                  obtain ⟨u, h2, h3⟩ := sameN_stop z rest (by omega)
                  rw [h1, hz] at h2
                  exact h3 (by simpa using h2.symm)
              rw [hkj] at hki ck hkn ⊢
              have HK := Lib.hid hkn
              clear hkj hz hks hk1 hsl hLr hkn
              gi_wp2_with fail
              exact ⟨⟨k + 1, by go_num, by omega, by have := HK.out; omega, trivial⟩, by simp [intOf]; omega⟩
            · have hkn : j + 1 = sameN v rest + 1 := by
                rcases Nat.lt_or_ge j (sameN v rest) with h | h
                · have h1 := sameN_get v rest j h
                  rw [hz] at h1
                  exact absurd (by simpa using h1) hzv
                · omega
              have hzi : ((z : Int) == (v : Int)) = false := by rw [beq_eq_false_iff_ne]; omega
              rw [hkj] at hki ck hkn ⊢
              have HK := Lib.hid hkn
              clear hkj hz hks hk1 hsl hLr hkn hzv
              gi_wp2_with fail
              gi_meet
              case rel => exact ⟨by rw [HK.out], rfl⟩
          · have hki : (L : Int) ≤ (k : Int) := by omega
            have HK := Lib.hid (show k = sameN v rest + 1 by omega)
            clear hks hk1 hsl hLr
            gi_wp2_with fail
            gi_meet
            case rel => exact ⟨by rw [HK.out], rfl⟩
      case rest =>
      obtain ⟨rfl, rfl⟩ := hcut
      obtain ⟨N, hN⟩ : ∃ N, sameN v rest + 1 = N := ⟨_, rfl⟩
      obtain ⟨hp, hj, hxr, hcr, hlr, hL, q8, qM, qB, qW⟩ := HH.out
      have hsl := sameN_le v rest
      have hNL : N ≤ L := by simp at hL; omega
      rw [hN]
      have f0 := free_of hxr 0
      have hNi : (N : Int) ≤ (L : Int) := by omega
      have hNc : (N : Int) ≤ (c' : Int) := by omega
      have HLEN := Lib.hid (show pre.length + (runL v N).length + (packL (rest.drop (sameN v rest))).length ≤ l.length by
        have h1 := congrArg List.length hp
        rw [packL_cons, List.length_append, List.length_append, List.length_map, hN] at h1
        have := packL_len l
        omega)
      have HP := Lib.hid (show pre.map RunO.p ++ (runL v N ++ packL (rest.drop (sameN v rest))) = packL l by rw [← hN, ← packL_cons]; exact hp)
      obtain ⟨a2, ha2⟩ : ∃ a2, (if c' = N then some (⟨b, o, none⟩ : Addr) else some ⟨b, o + N, none⟩) = a2 := ⟨_, rfl⟩
      have HA2 := Lib.hid ha2
      obtain ⟨V, hV⟩ : ∃ V, wc.setCell ⟨x, 0, none⟩ (.slice a2 (L - N) (c' - N)) = V := ⟨_, rfl⟩
      have HV := Lib.hid hV
      have fV : Fr [x] wc V := by rw [← hV]; exact Fr.setCell _ _ _ _
      have xV : V.heap[x]? = some (.cells #[.slice a2 (L - N) (c' - N)] 36 (0, 0)) := by
        rw [← hV]
        have := set_of hxr 0 (.slice a2 (L - N) (c' - N))
        simpa using this
      have jV : J pre M V := HB.out.1 _ _ _ _ _ hj fV (by simp)
      have hzV := fV.size
      have HVV := Lib.hid (And.intro fV (And.intro xV (And.intro jV (And.intro (show ∀ i, i ∈ M → i < V.heap.size ∧ i ∉ x :: tokB a l from fun i hi => ⟨Nat.lt_of_lt_of_le (qM i hi).1 hzV, (qM i hi).2⟩) (Nat.le_trans qW hzV)))))
      have HN := Lib.hid hN
      clear hp hj hxr hcr hlr hL q8 qM qB qW hsl hN fV xV jV hzV
      gi_upto_if 30 with fail
      skip
      clear ha2 hV f0 kx c0
      gi_cut [4, 5] from 30 (fun v4 v5 wz => ∃ (ys : List RunO) (M1 : List Nat) (r : Nat), v4 = .int .i64 (r : Int) ∧ r ≤ 10000 ∧ v5 = .bool true ∧ Hid (ys.map RunO.p ++ List.replicate r (v, 0) = runL v N ∧ J (pre ++ ys) M1 wz ∧ Fr (y :: M) V wz ∧ ∀ i, i ∈ M1 → i ∈ M ∨ V.heap.size ≤ i))
      case first =>
        have hy := HB.out.2.2.2.1
        have hN10 : N ≤ 10000 := by omega
        by_cases hv0 : v = 0
        · subst hv0
          have hrl : runL 0 N = repL 18 N ++ (repL 17 (repR 18 N) ++ List.replicate (repR 17 (repR 18 N)) (0, 0)) := by unfold runL; rw [if_pos rfl]
          have hll : pre.length + (repL 18 N).length + (repL 17 (repR 18 N)).length ≤ l.length := by
            have := HLEN.out
            rw [hrl, List.length_append, List.length_append] at this
            omega
          have hr1 := repR_le 18 N
          have hr2 := repR_le 17 (repR 18 N)
          have H18 := Lib.hid (fun m => repeats_18 y J [x] l.length W.heap.size HB.out.2.2.2.2.2.2.2.2.2 HB.out.1 HB.out.2.1 m N (by omega) pre M V HVV.out.2.2.1 (by omega) (by have := HVV.out.2.2.2.2; omega))
          have HRL := Lib.hid (And.intro hrl (And.intro hll (And.intro hr1 (And.intro hr2 hN10))))
          clear hrl hll hr1 hr2 hN10 hy
          gi_wp2_with fail
          refine ⟨trivial, fun h => absurd h (by simp [Fence.wide]), (H18.out _).mono ?_⟩
          rintro e W5 ⟨rfl, ys, M5, hys, hJ5, hf5, hm5⟩
          have H17 := Lib.hid (fun m => repeats_17 y J [x] l.length W.heap.size HB.out.2.2.2.2.2.2.2.2.2 HB.out.1 HB.out.2.1 m (repR 18 N) (by have := HRL.out; omega) (pre ++ ys) M5 W5 hJ5 (by have h1 := congrArg List.length hys; rw [List.length_map] at h1; rw [List.length_append, h1]; exact HRL.out.2.1) (by have := HVV.out.2.2.2.2; have := hf5.size; omega))
          have H5 := Lib.hid (And.intro hys (And.intro hf5 hm5))
          clear hys hJ5 hf5 hm5 H18
          gi_wp2_with fail
          refine ⟨trivial, fun h => absurd h (by simp [Fence.wide]), (H17.out _).mono ?_⟩
          rintro e W6 ⟨rfl, zs, M6, hzs, hJ6, hf6, hm6⟩
          have H6 := Lib.hid (And.intro hzs (And.intro hJ6 (And.intro hf6 hm6)))
          clear hzs hJ6 hf6 hm6 H17
          gi_wp2_with fail
          gi_meet
          case rel =>
            obtain ⟨hys, hf5, hm5⟩ := H5.out
            obtain ⟨hzs, hJ6, hf6, hm6⟩ := H6.out
            obtain ⟨h1, h2, h3, h4, h5⟩ := HRL.out
            have hs5 := hf5.size
            refine ⟨ys ++ zs, M6, _, rfl, by omega, rfl, Lib.hid ⟨by rw [h1, List.map_append, hys, hzs, List.append_assoc], by rw [← List.append_assoc]; exact hJ6, hf6.outL hf5 (by
              intro i hi
              rcases List.mem_cons.1 hi with rfl | hi
              · left; simp
              · rcases hm5 i hi with h | h
                · left; simp [h]
                · right; exact h), fun i hi => by
              rcases hm6 i hi with h | h
              · exact hm5 i h
              · right; omega⟩⟩
        · have hrl : runL v N = (v, 0) :: (repL 16 (N - 1) ++ List.replicate (repR 16 (N - 1)) (v, 0)) := by unfold runL; rw [if_neg hv0]
          have hll : pre.length + 1 + (repL 16 (N - 1)).length ≤ l.length := by
            have := HLEN.out
            rw [hrl, List.length_cons, List.length_append] at this
            omega
          have hvi : ((v : Int) == 0) = false := by rw [beq_eq_false_iff_ne]; omega
          have hr1 := repR_le 16 (N - 1)
          have hN1 : 1 ≤ N := by have := HN.out; omega
          obtain ⟨N', hN'⟩ : ∃ N', N - 1 = N' := ⟨_, rfl⟩
          have eN : (N : Int) - 1 = (N' : Int) := by omega
          rw [hN'] at hrl hll hr1
          obtain ⟨x0, hx0⟩ : ∃ x0 : RunO, x0.p = (v, 0) := ⟨⟨(v, 0), by simp only; omega⟩, rfl⟩
          have he : x0.encs = #[.agg #[.int .u8 (v : Int), .int .u8 0]] := by unfold RunO.encs; rw [hx0]; rfl
          obtain ⟨fn, tmps, assign, body, hy1, hR⟩ := HB.out.2.1 pre x0 M V HVV.out.2.2.1 (by omega) (n - 1)
          rw [he] at hy1
          have HR := Lib.hid hR
          have HRL := Lib.hid (And.intro hrl (And.intro hll (And.intro hr1 (show N' ≤ 10000 by omega))))
          have HX0 := Lib.hid hx0
          clear hrl hll hr1 hN10 hy hR he hv0 hN1 hN' hx0
          gi_wp2_with fail
          refine ⟨fun h => absurd h (by simp [Fence.wide]), HR.out.mono ?_⟩
          rintro e W5 ⟨rfl, M5, hJ5, hf5, hm5⟩
          have H16 := Lib.hid (fun m => repeats_16 y J [x] l.length W.heap.size HB.out.2.2.2.2.2.2.2.2.2 HB.out.1 HB.out.2.1 m N' (by have := HRL.out; omega) (pre ++ [x0]) M5 W5 hJ5 (by rw [List.length_append]; exact HRL.out.2.1) (by have := HVV.out.2.2.2.2; have := hf5.size; omega))
          have H5 := Lib.hid (And.intro hf5 hm5)
          clear hJ5 hf5 hm5 hy1
          gi_wp2_with fail
          refine ⟨trivial, fun h => absurd h (by simp [Fence.wide]), (H16.out _).mono ?_⟩
          rintro e W6 ⟨rfl, zs, M6, hzs, hJ6, hf6, hm6⟩
          have H6 := Lib.hid (And.intro hzs (And.intro hJ6 (And.intro hf6 hm6)))
          clear hzs hJ6 hf6 hm6 H16
          gi_wp2_with fail
          gi_meet
          case rel =>
            obtain ⟨hf5, hm5⟩ := H5.out
            obtain ⟨hzs, hJ6, hf6, hm6⟩ := H6.out
            obtain ⟨h1, h2, h3, h4⟩ := HRL.out
            have hs5 := hf5.size
            refine ⟨x0 :: zs, M6, _, rfl, by omega, rfl, Lib.hid ⟨by rw [h1, List.map_cons, hzs, HX0.out, List.cons_append], by have := hJ6; rwa [List.append_assoc] at this, hf6.outL hf5 (by
              intro i hi
              rcases List.mem_cons.1 hi with rfl | hi
              · left; simp
              · rcases hm5 i hi with h | h
                · left; simp [h]
                · right; exact h), fun i hi => by
              rcases hm6 i hi with h | h
              · exact hm5 i h
              · right; omega⟩⟩
      case rest =>
      obtain ⟨ys, M1, r, rfl, hr10, rfl, hq⟩ := hcut
      have hri : (r : Int) ≤ 10000 := by omega
      gi_wp2_with fail
      gi_loopw [4, 5] (fun v4 v5 wz => ∃ (k : Nat) (zs : List RunO) (Mk : List Nat), v4 = .int .i64 (k : Int) ∧ v5 = .bool true ∧ k ≤ r ∧ Hid (zs.map RunO.p ++ List.replicate k (v, 0) = runL v N ∧ J (pre ++ zs) Mk wz ∧ Fr (y :: M) V wz ∧ ∀ i, i ∈ Mk → i ∈ M ∨ V.heap.size ≤ i)) (fun v4 _ _ => (intOf v4).toNat)
      case atStart => exact ⟨r, ys, M1, rfl, rfl, Nat.le_refl _, hq⟩
      case round =>
        obtain ⟨k, zs, Mk, rfl, rfl, hkr, hz⟩ := hrel
        have hki : (k : Int) ≤ 10000 := by omega
        cases k with
        | succ k =>
          have hk0 : 0 < ((k + 1 : Nat) : Int) := by omega
          obtain ⟨h1, h2, h3, h4⟩ := hz.out
          obtain ⟨x0, hx0⟩ : ∃ x0 : RunO, x0.p = (v, 0) := ⟨⟨(v, 0), by simp only; omega⟩, rfl⟩
          have he : x0.encs = #[.agg #[.int .u8 (v : Int), .int .u8 0]] := by unfold RunO.encs; rw [hx0]; rfl
          obtain ⟨fn, tmps, assign, body, hy1, hR⟩ := HB.out.2.1 (pre ++ zs) x0 Mk wr h2 (by
            have h5 := congrArg List.length h1
            have := HLEN.out
            rw [List.length_append, List.length_map, List.length_replicate] at h5
            rw [List.length_append]
            omega) (n - 1)
          rw [he] at hy1
          have HR := Lib.hid hR
          have ek : ((k + 1 : Nat) : Int) - 1 = (k : Int) := by omega
          have HZ := Lib.hid (show (zs ++ [x0]).map RunO.p ++ List.replicate k (v, 0) = runL v N by rw [← h1, List.map_append, List.replicate_succ]; simp [hx0])
          clear h1 h2 h3 h4 hR he hx0
          gi_wp2_with fail
          refine ⟨fun h => absurd h (by simp [Fence.wide]), HR.out.mono ?_⟩
          rintro e W5 ⟨rfl, M5, hJ5, hf5, hm5⟩
          have H5 := Lib.hid (And.intro hJ5 (And.intro hf5 hm5))
          clear hJ5 hf5 hm5 hy1
          gi_wp2_with fail
          go_roundw
          case rel =>
            obtain ⟨hJ5, hf5, hm5⟩ := H5.out
            obtain ⟨h1, h2, h3, h4⟩ := hz.out
            have hs5 := h3.size
            refine ⟨k, zs ++ [x0], M5, rfl, rfl, by omega, Lib.hid ⟨HZ.out, by rw [← List.append_assoc]; exact hJ5, hf5.outL h3 (by
              intro i hi
              rcases List.mem_cons.1 hi with rfl | hi
              · left; simp
              · rcases h4 i hi with h | h
                · left; simp [h]
                · right; exact h), fun i hi => by
              rcases hm5 i hi with h | h
              · exact h4 i h
              · right; omega⟩⟩
          case measure => simp [intOf]
        | zero =>
          obtain ⟨h1, h2, h3, h4⟩ := hz.out
          have HZ := Lib.hid (And.intro h1 (And.intro h2 (And.intro h3 h4)))
          clear h1 h2 h3 h4 hz
          gi_wp2_with fail
          go_roundw
          case rel =>
            obtain ⟨h1, h2, h3, h4⟩ := HZ.out
            obtain ⟨hp, hj, hxr, hcr, hlr, hL, q8, qM, qB, qW⟩ := HH.out
            obtain ⟨fV, xV, jV, mV, zV⟩ := HVV.out
            have hS := HB.out.2.2.1
            have hyl := HB.out.2.2.2.1
            have hW0 := HB.out.2.2.2.2.1
            have hNe := HN.out
            have hlen : (rest.drop (sameN v rest)).length = L - N := by rw [List.length_drop]; simp at hL; omega
            have hxy : x ∉ y :: M := fun h => by
              rcases List.mem_cons.1 h with h5 | h5
              · have := hS x (by simp); omega
              · exact (mV x h5).2 (by simp)
            refine ⟨pre ++ zs, Mk, rest.drop (sameN v rest), a2, c' - N, Lib.hid ?_, h2, by rw [hlen]; exact h3.blk xV hxy, ?_, by omega, by omega, Lib.hid ⟨fun u hu => q8 u (by simp [List.mem_of_mem_drop hu]), fun i hi => ⟨HB.out.2.2.2.2.2.2.2.2.2 _ _ _ h2 i hi, ?_⟩, ?_, by have := h3.size; omega⟩⟩
            · rw [← HP.out, ← h1, List.map_append]
              simp
            · intro hne
              have hlt : N < L := by
                have : 0 < (rest.drop (sameN v rest)).length := List.length_pos_iff.2 hne
                omega
              have ha := HA2.out
              rw [if_neg (by omega)] at ha
              refine ⟨b, o + N, ha.symm, ?_, fun i u hi j z hz => ?_⟩
              · have := fV.size; have := h3.size; omega
              · rw [List.getElem?_drop] at hi
                have h5 := HC.out (N + i) u (by rw [show N + i = (sameN v rest + i) + 1 by omega, List.getElem?_cons_succ]; exact hi) j z hz
                have hb1 : b ∈ x :: tokB a l := List.mem_cons_of_mem _ (qB b (by simp [tokB]))
                have hbx : b ≠ x := fun e => HB.out.2.2.2.2.2.1 (by rw [← e]; exact qB b (by simp [tokB]))
                have hby : b ∉ y :: M := fun h => by
                  rcases List.mem_cons.1 h with h6 | h6
                  · have := hS b hb1; omega
                  · exact (mV b h6).2 hb1
                have e5 := fV.block b hbl (by simpa using hbx)
                have e6 := h3.block b (Nat.lt_of_lt_of_le hbl fV.size) hby
                have e7 : o + N + (i * 1 + j) = o + ((N + i) * 1 + j) := by omega
                unfold World.cell? at h5 ⊢
                rw [e6, e5, e7]
                exact h5
            · intro hs
              rcases h4 i hi with h5 | h5
              · exact (mV i h5).2 hs
              · have := hS i hs; omega
            · intro i hi
              cases hd : rest.drop (sameN v rest) with
              | nil => rw [hd] at hi; cases hi
              | cons u us =>
                rw [hd] at hi
                have hlt : N < L := by rw [hd] at hlen; simp at hlen; omega
                have ha := HA2.out
                rw [if_neg (by omega)] at ha
                rw [← ha] at hi
                simp [tokB] at hi
                subst hi
                exact qB i (by simp [tokB])
          case measure =>
            obtain ⟨hp, hj, hxr, hcr, hlr, hL, q8, qM, qB, qW⟩ := HH.out
            obtain ⟨fV, xV, jV, mV, zV⟩ := HVV.out
            have hS := HB.out.2.2.1
            have hyl := HB.out.2.2.2.1
            have hNe := HN.out
            have hxy : x ∉ y :: M := fun h => by
              rcases List.mem_cons.1 h with h5 | h5
              · have := hS x (by simp); omega
              · exact (mV x h5).2 (by simp)
            rw [boxLen_of (HZ.out.2.2.1.blk xV hxy), boxLen_of hxr]
            simp at hL
            omega
end Go.Proofs.YtciejmlhdmjajaaGreat
namespace Go.Proofs.YtciejmlhdmjajaaGreat
open Go.RowKit Go.Shelf
set_option linter.unusedVariables false
set_option linter.unusedSimpArgs false
attribute [local go_sem] Oper.semAt_some

def RunE (p : Nat × Nat) : List Value := [.int .u8 (p.1 : Int), .int .u8 (p.2 : Int)]
theorem runElem : Elem Tryz.prog 56 87 2 2 := by
  refine ⟨Tryz.underlying56, ?_⟩
  obtain ⟨i, h1, h2, h3, h4⟩ := info_parts (show (Tryz.prog.info? 87).map (fun i => (i.zero, i.size, i.bytes)) = some (some (.agg #[.int .u8 0, .int .u8 0]), 2, 2) by kernel_rfl)
  exact ⟨i, _, h1, h2, h3, h4, rfl, by omega⟩
theorem flatMap_map' {α β γ : Type} (f : α → β) (g : β → List γ) : ∀ l : List α, (l.map f).flatMap g = l.flatMap fun x => g (f x)
  | [] => rfl
  | x :: l => by simp only [List.map_cons, List.flatMap_cons, flatMap_map' f g l]
theorem told_in (a : Option Addr) (c : Nat) (n : Nat) (w : World) : Calls Tryz.prog 63 #[.slice a n c] w fun e w' => e = .returned (.func (.func 91) #[] #[.pointer (some ⟨w.heap.size, 0, none⟩)]) ∧ w' = w.alloc (.cells #[.slice a n c] 36) := by
  go_enter Tryz.func63, Tryz.ntmps63
  go_wp2
  go_ret
  exact ⟨rfl, rfl⟩
/-- The footprint of a row in a cell: the cell, the row. -/
def RowI (w : World) (r x : Nat) (T e : TypeId) (sz B : Nat) (len : Nat) (xs : List Value) (M : List Nat) (W : World) : Prop :=
  ∃ v, M = wfp r v ∧ W.heap[r]? = some (.cells #[v] T (0, 0)) ∧ W.ownsRow B e sz v len xs ∧ v.ownBlock ≠ some x ∧ v.ownBlock ≠ some r
theorem stab_rowI {β : Type} {w : World} {r x : Nat} {T e : TypeId} {sz B B0 : Nat} (f : β → Nat) (g : β → List Value) (hr : r < B) (hrx : r ≠ x) : Stab [x] B (fun s M W => RowI w r x T e sz B0 (f s) (g s) M W) := fun s M X Y K h hf hK => by
  obtain ⟨v, rfl, h1, h2, h3, h4⟩ := h
  have hn : ∀ i, i ∈ wfp r v → i ∉ K := fun i hi hk => by
    rcases hK i hk with h5 | ⟨_, h5⟩
    · simp at h5
      subst h5
      simp only [wfp, List.mem_cons, Option.mem_toList] at hi
      rcases hi with h6 | h6
      · exact hrx h6.symm
      · exact h3 h6
    · exact h5 hi
  exact ⟨v, rfl, hf.blk h1 (hn r (by simp [wfp])), ownsRow_to h2 hf (fun g hg => hn g (by simp [wfp, hg])), h3, h4⟩
theorem RowI.lt {w : World} {r x : Nat} {T e : TypeId} {sz B len : Nat} {xs : List Value} {M : List Nat} {W : World} (h : RowI w r x T e sz B len xs M W) : ∀ i, i ∈ M → i < W.heap.size := fun i hi => by
  obtain ⟨v, rfl, h1, h2, _⟩ := h
  simp only [wfp, List.mem_cons, Option.mem_toList] at hi
  rcases hi with rfl | hi
  · exact lt_of h1
  · exact (h2.lt i hi).2
set_option maxRecDepth 2000000 in
set_option maxHeartbeats 3200000 in
theorem pack_in (a : Option Addr) (c : Nat) (l : List Nat) (w : World) (hs : SlOf U8 1 w a l) (hc : l.length ≤ c) (hl : l.length ≤ 10000) (h8 : ∀ v ∈ l, v ≤ 15) :
    CallsIn Fence.wide 4 Tryz.prog 40 #[.slice a l.length c] w fun e w' => ∃ v, e = .returned (.tuple #[v, .int .i64 0]) ∧ w'.ownsRow w.heap.size 87 2 v (packL l).length ((packL l).flatMap RunE) ∧ Fr [] w w' := by
  have HB := Lib.hid (And.intro hs (And.intro hc (And.intro hl h8)))
  have hli : (l.length : Int) ≤ 10000 := by omega
  clear hs hc hl h8
  refine callsIn_of_wp_marks Tryz.func40 rfl trivial ?_ rfl
  simp only [Tryz.ntmps40, List.size_toArray, List.length_cons, List.length_nil, Nat.reduceAdd, Nat.reduceSub, Array.replicate_succ, Array.replicate_zero, List.push_toArray, List.append_toArray, List.nil_append, List.cons_append]
  gi_wp2_with fail
  gi_loopw [9] (fun v9 wz => ∃ k : Nat, k ≤ l.length ∧ v9 = .int .i64 (k : Int) ∧ wz = w.alloc (.cells #[.slice none 0 0] 56)) (fun v9 _ => l.length - (intOf v9).toNat)
  case atStart => exact ⟨0, by omega, rfl, rfl⟩
  case round =>
    obtain ⟨k, hk, rfl, rfl⟩ := hrel
    by_cases hlt : k < l.length
    · have hki : (k : Int) < (l.length : Int) := by omega
      obtain ⟨u, hu⟩ : ∃ u, l[k]? = some u := ⟨l[k], List.getElem?_eq_getElem hlt⟩
      obtain ⟨b, o, rfl, hbl, hcell⟩ := (HB.out.1.fr0 (Fr.alloc _ w (.cells #[.slice none 0 0] 56))) (by intro h; rw [h] at hu; simp at hu)
      have c0 := hcell k u hu 0 (.int .u8 (u : Int)) rfl
      rw [Nat.mul_one, Nat.add_zero] at c0
      have hu15 : (u : Int) ≤ 15 := by have := HB.out.2.2.2 u (List.mem_of_getElem? hu); omega
      clear hcell hu
      gi_wp2_with fail
      go_roundw
      case rel => exact ⟨k + 1, by omega, by go_num, trivial⟩
      case measure => simp [intOf]; omega
    · have hki : (l.length : Int) ≤ (k : Int) := by omega
      clear hlt
      gi_wp2_with fail
      refine ⟨trivial, (callsIn_wide.2 (told_in a c l.length _)).mono ?_⟩
      rintro e w1 ⟨rfl, rfl⟩
      gi_wp2_with fail
      obtain ⟨W0, hW0⟩ : ∃ W0, (w.alloc (.cells #[.slice none 0 0] 56)).alloc (.cells #[.slice a l.length c] 36) = W0 := ⟨_, rfl⟩
      have hs0 : W0.heap.size = w.heap.size + 2 := by rw [← hW0]; simp
      have f0 : Fr [] w W0 := by rw [← hW0]; exact (Fr.alloc _ _ _).trans (Fr.alloc _ _ _)
      have x0 : W0.heap[w.heap.size]? = some (.cells #[.slice none 0 0] 56 (0, 0)) := by
        rw [← hW0]; exact (Fr.alloc [] _ _).blk (alloc_last w _) (by simp)
      have x1 : W0.heap[w.heap.size + 1]? = some (.cells #[.slice a l.length c] 36 (0, 0)) := by
        rw [← hW0]
        have := alloc_last (w.alloc (.cells #[.slice none 0 0] 56)) (.cells #[.slice a l.length c] 36)
        simpa using this
      rw [hW0]
      clear hW0
      obtain ⟨hs, hc, hl, h8⟩ := HB.out
      refine wpIn_iter (by omega) rfl (enters_of Tryz.func91 (by kernel_rfl) rfl) (told_iter 3 a c l (w.heap.size + 1) W0 (hs.fr0 f0) hc hl (fun v hv => by have := h8 v hv; omega) x1 (fun h => by have := hs.lt _ h; omega)) (fun _ => rfl) [w.heap.size]
        (fun k hk => ?_) (fun k hk => by simp at hk; omega)
        (fun pre M W => Fr [] w W ∧ RowI w w.heap.size (w.heap.size + 1) 56 87 2 w.heap.size pre.length (pre.flatMap fun x => RunE x.p) M W)
        (fun pre M X h => h.2.lt)
        (Stab.and (stab_fr (by omega) (by simp)) (stab_rowI (fun pre : List RunO => pre.length) (fun pre : List RunO => pre.flatMap fun x => RunE x.p) (by omega) (by omega)))
        ⟨f0, .slice none 0 0, rfl, x0, World.ownsRow_nil _ _ _ _, by simp [Value.ownBlock], by simp [Value.ownBlock]⟩ ?round ?done
      · simp only [List.mem_cons, List.not_mem_nil, or_false] at hk ⊢
        subst hk
        exact ⟨by omega, by omega, fun h => by have := hs.lt _ h; omega⟩
      case round =>
        rintro lp pre x M W hlp hlW ⟨hf, v, rfl, hx0, hrow, hvx, hvr⟩ hlM hlen
        obtain ⟨ao, cp, rfl⟩ := row_form hrow
        obtain ⟨v, hv⟩ : ∃ v, Value.slice ao pre.length cp = v := ⟨_, rfl⟩
        rw [hv] at hx0 hrow hvx hvr hlM ⊢
        obtain ⟨⟨p1, p2⟩, hp⟩ := x
        obtain ⟨y, hy⟩ : ∃ y : RunO, y = ⟨(p1, p2), hp⟩ := ⟨_, rfl⟩
        have HY := Lib.hid hy
        simp only [RunO.encs, RunO.p]
        gi_wp2_with fail
        refine ⟨Fr.alloc _ _ _, fun W2 f2 => ?_⟩
        have fa : Fr [lp] W W2 := (Fr.alloc [lp] _ _).trans f2
        have hnl : ∀ i, i ∈ wfp w.heap.size v → i ∉ [lp] := fun i hi h => by simp at h; subst h; exact hlM hi
        have z0 := fa.blk hx0 (hnl _ (by simp [wfp]))
        have zr := ownsRow_to hrow fa (fun g hg => hnl g (by simp [wfp, hg]))
        have zb := f2.blk (alloc_last W (.cells #[.int .u8 (p1 : Int), .int .u8 (p2 : Int)] 87)) (by simp; omega)
        have fw : Fr [] w W2 := fa.outL hf (by simp; omega)
        have b0 := cell_of zb 0
        have b1 := cell_of zb 1
        have c0 := cell_of z0 0
        simp at b0 b1 c0
        have hwz := fw.size
        obtain ⟨g, cap, w3, hr, hP⟩ := push_run (P := Tryz.prog) w.heap.size w W2 56 56 87 2 2 runElem v pre.length _ zr fw.below hwz #[.int .u8 (p1 : Int), .int .u8 (p2 : Int)] 1 1 rfl rfl (by omega) (by omega) (by omega)
        have hv0 : v.ownBlock ≠ some w.heap.size := hvr
        have z3 := hP.keep z0 hv0
        have c3 := cell_of z3 0
        have e3 := free_of z3 0
        simp at c3
        have HW := Lib.hid (And.intro fw (And.intro hP (And.intro z3 (And.intro hvx (And.intro hvr (And.intro fa.size (And.intro zb zr)))))))
        have HR := Lib.hid hr
        have HV := Lib.hid hv
        rw [← hv] at c0
        clear hx0 hrow hvx hvr hlM hlen fa hnl z0 zr zb fw hwz hP z3 hv0 hf hy hr hv
        gi_wp2_with (gi_at_builtin; refine wpListIn_push rfl (.tmp 19) (.tmp 21) 56 rfl HV.out rfl HR.out ?_)
        obtain ⟨fw, hP, z3, hvx, hvr, hWs, zb, zr⟩ := HW.out
        rw [HV.out, ← HY.out]
        have hW2 := fw.size
        have hgr : g ≠ w.heap.size := fun e => by
          rcases hP.or_ with h | h
          · exact hvr (by rw [h, e])
          · simp at h; omega
        have hgx : g ≠ w.heap.size + 1 := fun e => by
          rcases hP.or_ with h | h
          · exact hvx (by rw [h, e])
          · have h1 := lt_of zb
            simp at h
            have h2 := f2.size
            simp at h2
            omega
        have f3 : Fr (wfp w.heap.size v) W2 w3 := (Fr.alloc _ _ _).nil.trans ((fr_grown hP.grown).mono fun i hi => by simp [wfp] at hi ⊢; exact .inr hi) |> fun h => h
        have fs : Fr (wfp w.heap.size v) W2 (w3.setCell ⟨w.heap.size, 0, none⟩ (.slice (some ⟨g, 0, none⟩) (pre.length + 1) cap)) := f3.trans ((Fr.setCell _ _ _ _).mono fun i hi => by simp at hi; simp [wfp, hi])
        have hown : ∀ i, i ∈ wfp w.heap.size v → w.heap.size ≤ i := fun i hi => by
          simp only [wfp, List.mem_cons, Option.mem_toList] at hi
          rcases hi with rfl | hi
          · exact Nat.le_refl _
          · exact (zr.lt i hi).1
        refine ⟨wfp w.heap.size (.slice (some ⟨g, 0, none⟩) (pre.length + 1) cap), ⟨fs.outL fw (fun i hi => .inr (hown i hi)), _, rfl, ?_, ?_, ?_, ?_⟩, fs, ?_⟩
        · have := set_of z3 0 (.slice (some ⟨g, 0, none⟩) (pre.length + 1) cap)
          simpa using this
        · have h1 := ownsRow_setCell_other hP.own (a := ⟨w.heap.size, 0, none⟩) (by simp [Value.ownBlock]; exact hgr) (.slice (some ⟨g, 0, none⟩) (pre.length + 1) cap)
          rw [List.length_append, List.flatMap_append]
          have e1 : ([y] : List RunO).flatMap (fun x => RunE x.val) = [.int .u8 (p1 : Int), .int .u8 (p2 : Int)] := by rw [HY.out]; rfl
          rw [e1]
          exact h1
        · simp [Value.ownBlock]; exact hgx
        · simp [Value.ownBlock]; exact hgr
        · intro i hi
          simp [wfp, Value.ownBlock] at hi
          rcases hi with rfl | rfl
          · left; simp [wfp]
          · rcases hP.or_ with h | h
            · left; simp [wfp, h]
            · right; simp at h; omega
      case done =>
        rintro D ys M W hD hys ⟨hf, v, rfl, hx0, hrow, hvx, hvr⟩ hDM hK
        have c0 := cell_of hx0 0
        have d0 := free_of hx0 0
        simp at c0
        have HX := Lib.hid (And.intro hf (And.intro hx0 (And.intro hrow (And.intro hvr (And.intro hDM (And.intro hK hys))))))
        obtain ⟨ao, cp, hv⟩ := row_form hrow
        rw [hv] at c0
        clear hf hx0 hrow hvx hvr hDM hK hys
        gi_wp2_with fail
        obtain ⟨hf, hx0, hrow, hvr, hDM, hK, hys⟩ := HX.out
        rw [hv] at hrow hvr hDM
        have fs := Fr.setCell W w.heap.size 0 (.slice ao ys.length cp)
        have s1 := set_of hx0 0 (.slice ao ys.length cp)
        have r1 := ownsRow_setCell_other hrow (a := ⟨w.heap.size, 0, none⟩) hvr (.slice ao ys.length cp)
        have hDr : D ≠ w.heap.size := fun e => hDM (by rw [e]; simp [wfp])
        have hK' := fs.blk hK (by simp; exact hDr)
        refine ⟨by simp, .inl ⟨_, _, rfl, run_takeDeferred hK', ?_⟩⟩
        have fp := fr_put (.deferred none) hK'
        have s2 := fp.blk s1 (by simp; exact fun e => hDr e.symm)
        have c2 := cell_of s2 0
        simp at c2
        have r2 := ownsRow_to r1 fp (fun g hg h => by
          simp at h
          subst h
          exact hDM (by simp [wfp, hg]))
        have e1 : (packL l).flatMap RunE = ys.flatMap fun x => RunE x.p := by
          rw [← hys]; exact flatMap_map' _ _ _
        have e2 : (packL l).length = ys.length := by rw [← hys, List.length_map]
        rw [e1, e2]
        refine ⟨.tuple #[.slice ao ys.length cp, .int .i64 0], by simp [results, Tryz.results40, go_sem, c2], _, rfl, r2, fp.outL (fs.outL hf (by simp)) (by simp; omega)⟩
theorem rpack_ok (a : Option Addr) (c : Nat) (l : List Nat) (w : World) (hs : SlOf U8 1 w a l) (hc : l.length ≤ c) (hl : l.length ≤ 10000) (h8 : ∀ v ∈ l, v ≤ 15) :
    Calls Tryz.prog 40 #[.slice a l.length c] w fun e w' => ∃ v, e = .returned (.tuple #[v, .int .i64 0]) ∧ w'.ownsRow w.heap.size 87 2 v (packL l).length ((packL l).flatMap RunE) ∧ Fr [] w w' := callsIn_wide.1 (pack_in a c l w hs hc hl h8)
end Go.Proofs.YtciejmlhdmjajaaGreat
namespace Go.Proofs.YtciejmlhdmjajaaGreat
open Go.RowKit
set_option linter.unusedVariables false
set_option linter.unusedSimpArgs false

def uptoD (l : List Nat) (least : Nat) : Nat → Nat
  | 0 => 0
  | n + 1 => if least < n + 1 ∧ l.getD n 0 = 0 then uptoD l least n else n + 1
def uptoL (l : List Nat) (least : Nat) : Nat := uptoD l least l.length
theorem uptoD_le (l : List Nat) (least : Nat) : ∀ n, uptoD l least n ≤ n
  | 0 => Nat.le_refl _
  | n + 1 => by unfold uptoD; split; have := uptoD_le l least n; omega; omega
theorem uptoD_ge (l : List Nat) (least : Nat) : ∀ n, least ≤ n → least ≤ uptoD l least n
  | 0, h => h
  | n + 1, h => by
    unfold uptoD
    split
    · exact uptoD_ge l least n (by omega)
    · exact h
theorem uptoD_zero (l : List Nat) (least : Nat) : ∀ n i, uptoD l least n ≤ i → i < n → l.getD i 0 = 0
  | 0, i, _, h => by omega
  | n + 1, i, h, h2 => by
    unfold uptoD at h
    split at h
    · by_cases hi : i = n
      · subst hi; rename_i h3; exact h3.2
      · exact uptoD_zero l least n i h (by omega)
    · omega
theorem uptoD_last (l : List Nat) (least : Nat) : ∀ n, least ≤ n → uptoD l least n = least ∨ (0 < uptoD l least n ∧ l.getD (uptoD l least n - 1) 0 ≠ 0)
  | 0, h => by left; unfold uptoD; omega
  | n + 1, h => by
    unfold uptoD
    split
    · exact uptoD_last l least n (by omega)
    · rename_i h3
      by_cases h4 : least < n + 1
      · right; exact ⟨by omega, fun h5 => h3 ⟨h4, h5⟩⟩
      · left; omega
set_option maxRecDepth 100000 in
set_option maxHeartbeats 3200000 in
theorem bupto_ok (a : Option Addr) (c : Nat) (l : List Nat) (least : Nat) (w : World) (hs : SlOf U8 1 w a l) (hl : l.length ≤ 1000000) (h8 : ∀ x ∈ l, x < 256) :
    Calls Tryz.prog 39 #[.slice a l.length c, .int .i64 (least : Int)] w fun e w' => e = .returned (.int .i64 ((uptoL l least : Nat) : Int)) ∧ w' = w := by
  have HB := Lib.hid (And.intro hs h8)
  have hli : (l.length : Int) ≤ 1000000 := by omega
  clear hs h8 hl
  go_enter Tryz.func39, Tryz.ntmps39
  go_wp2_with fail
  go_loopw [5] (fun v5 wr => ∃ n : Nat, v5 = .int .i64 (n : Int) ∧ n ≤ l.length ∧ Hid (uptoD l least n = uptoL l least) ∧ wr = w) (fun v5 _ => (intOf v5).toNat)
  case atStart => exact ⟨_, rfl, Nat.le_refl _, Lib.hid rfl, rfl⟩
  case round =>
    obtain ⟨n, rfl, hn, hp, rfl⟩ := hrel
    by_cases hlt : least < n
    · have hlti : (least : Int) < (n : Int) := by omega
      obtain ⟨m, rfl⟩ : ∃ m, n = m + 1 := ⟨n - 1, by omega⟩
      have em : ((m + 1 : Nat) : Int) - 1 = (m : Int) := by omega
      obtain ⟨x, hx⟩ : ∃ x, l[m]? = some x := ⟨l[m]'(by omega), List.getElem?_eq_getElem _⟩
      obtain ⟨b, o, rfl, hbl, hc⟩ := HB.out.1 (by intro h; rw [h] at hx; simp at hx)
      have c0 := hc m x hx 0 (.int .u8 (x : Int)) rfl
      rw [Nat.mul_one, Nat.add_zero] at c0
      have hgd : l.getD m 0 = x := by simp [List.getD, hx]
      have hml : (m : Int) < (l.length : Int) := by omega
      by_cases hx0 : x = 0
      · subst hx0
        have HP := Lib.hid (show uptoD l least m = uptoL l least by have := hp.out; unfold uptoD at this; rw [if_pos ⟨hlt, hgd⟩] at this; exact this)
        clear hc hx hgd
        go_wp2_with fail
        exact ⟨⟨m, rfl, by omega, Lib.hid HP.out, trivial⟩, by simp [intOf]⟩
      · have hxi : ((x : Int) == 0) = false := by rw [beq_eq_false_iff_ne]; omega
        have HP := Lib.hid (show uptoL l least = m + 1 by have := hp.out; unfold uptoD at this; rw [if_neg (by rw [hgd]; exact fun h => hx0 h.2)] at this; exact this.symm)
        clear hc hx hgd hx0
        go_wp2_with fail
        go_ret
        exact ⟨by rw [HP.out]; rfl, rfl⟩
    · have HP := Lib.hid (show uptoL l least = n by
        have := hp.out
        cases n with
        | zero => exact this.symm
        | succ m => unfold uptoD at this; rw [if_neg (fun h => hlt h.1)] at this; exact this.symm)
      have hlti : (n : Int) ≤ (least : Int) := by omega
      clear hlt
      go_wp2_with fail
      go_ret
      exact ⟨by rw [HP.out]; rfl, rfl⟩
end Go.Proofs.YtciejmlhdmjajaaGreat
namespace Go.Proofs.YtciejmlhdmjajaaGreat
open Go.RowKit
set_option linter.unusedVariables false
set_option linter.unusedSimpArgs false

/-- What is told of codes. -/
def allL (lit dist : List Nat) : List Nat := lit.take (uptoL lit 257) ++ dist.take (uptoL dist 1)
def rsL (lit dist : List Nat) : List (Nat × Nat) := packL (allL lit dist)
def cntR (rs : List (Nat × Nat)) (i : Nat) : Nat := (rs.filter fun p => p.1 == i).length
def ownF (lit dist : List Nat) (s : Nat) : Nat := lenS (ctL (cntR (rsL lit dist)) 19) 7 s
def ordL (lit dist : List Nat) : List Nat := orderL.map (ownF lit dist)
theorem repL_ok (s : Nat) (hs : s = 16 ∨ s = 17 ∨ s = 18) : ∀ n, ∀ p ∈ repL s n, p.1 = s ∧ p.2 < 2 ^ rbN s := by
  intro n
  induction n using Nat.strongRecOn with
  | _ n ih =>
    intro p hp
    have hl := lo_most s
    by_cases h : loN s ≤ n
    · rw [repL_step s n h] at hp
      rcases List.mem_cons.1 hp with rfl | hp
      · refine ⟨rfl, ?_⟩
        rcases hs with rfl | rfl | rfl
        · have e1 : mostN 16 = 6 := by decide
          have e2 : loN 16 = 3 := by decide
          have e3 : 2 ^ rbN 16 = 4 := by decide
          rw [e1, e2, e3]; show min n 6 - 3 < 4; omega
        · have e1 : mostN 17 = 10 := by decide
          have e2 : loN 17 = 3 := by decide
          have e3 : 2 ^ rbN 17 = 8 := by decide
          rw [e1, e2, e3]; show min n 10 - 3 < 8; omega
        · have e1 : mostN 18 = 138 := by decide
          have e2 : loN 18 = 11 := by decide
          have e3 : 2 ^ rbN 18 = 128 := by decide
          rw [e1, e2, e3]; show min n 138 - 11 < 128; omega
      · exact ih (n - min n (mostN s)) (by omega) p hp
    · rw [repL_end s n (by omega)] at hp
      cases hp
def RunOk (p : Nat × Nat) : Prop := p.1 ≤ 18 ∧ p.2 < 2 ^ rbN p.1
theorem runL_ok (v n : Nat) (hv : v ≤ 15) : ∀ p ∈ runL v n, RunOk p := by
  intro p hp
  have hz : ∀ x : Nat, x ≤ 15 → RunOk (x, 0) := fun x hx => ⟨by show x ≤ 18; omega, Nat.pow_pos (by decide)⟩
  unfold runL at hp
  split at hp
  · rcases List.mem_append.1 hp with h | h
    · obtain ⟨h1, h2⟩ := repL_ok 18 (by omega) _ p h
      exact ⟨by omega, by rw [h1]; exact h2⟩
    · rcases List.mem_append.1 h with h | h
      · obtain ⟨h1, h2⟩ := repL_ok 17 (by omega) _ p h
        exact ⟨by omega, by rw [h1]; exact h2⟩
      · rw [List.eq_of_mem_replicate h]; exact hz 0 (by omega)
  · rcases List.mem_cons.1 hp with h | h
    · rw [h]; exact hz v hv
    · rcases List.mem_append.1 h with h | h
      · obtain ⟨h1, h2⟩ := repL_ok 16 (by omega) _ p h
        exact ⟨by omega, by rw [h1]; exact h2⟩
      · rw [List.eq_of_mem_replicate h]; exact hz v hv
theorem packL_ok : ∀ l : List Nat, (∀ v ∈ l, v ≤ 15) → ∀ p ∈ packL l, RunOk p := by
  intro l
  generalize hn : l.length = n
  induction n using Nat.strongRecOn generalizing l with
  | _ n ih =>
    intro hl p hp
    cases l with
    | nil => cases hp
    | cons v l =>
      rw [packL_cons] at hp
      rcases List.mem_append.1 hp with h | h
      · exact runL_ok v _ (hl v (by simp)) p h
      · exact ih _ (by rw [List.length_drop]; simp at hn; omega) _ rfl (fun u hu => hl u (by simp [List.mem_of_mem_drop hu])) p h
theorem allL_ok {lit dist : List Nat} (h8 : ∀ x ∈ lit, x ≤ 15) (k8 : ∀ x ∈ dist, x ≤ 15) : ∀ v ∈ allL lit dist, v ≤ 15 := fun v hv => by
  rcases List.mem_append.1 hv with h | h
  · exact h8 v (List.mem_of_mem_take h)
  · exact k8 v (List.mem_of_mem_take h)
theorem cntR_take (rs : List (Nat × Nat)) (k : Nat) (p : Nat × Nat) (h : rs[k]? = some p) (i : Nat) : cntR (rs.take (k + 1)) i = if i = p.1 then cntR (rs.take k) p.1 + 1 else cntR (rs.take k) i := by
  unfold cntR
  rw [List.take_add_one, h, List.filter_append, List.length_append]
  by_cases hi : i = p.1
  · subst hi; simp
  · have : ¬ p.1 = i := fun e => hi e.symm
    simp [hi, this]
theorem cntR_le (rs : List (Nat × Nat)) (i : Nat) : cntR rs i ≤ rs.length := List.length_filter_le _ _
theorem zc19 : (#[Value.int .i64 0, Value.int .i64 0, Value.int .i64 0, Value.int .i64 0, Value.int .i64 0, Value.int .i64 0, Value.int .i64 0, Value.int .i64 0, Value.int .i64 0, Value.int .i64 0, Value.int .i64 0, Value.int .i64 0, Value.int .i64 0, Value.int .i64 0, Value.int .i64 0, Value.int .i64 0, Value.int .i64 0, Value.int .i64 0, Value.int .i64 0] : Array Value) = ((List.range 19).map fun j => Value.int .i64 (((fun _ => 0 : Nat → Nat) j : Nat) : Int)).toArray := by kernel_rfl
theorem needN_19 : ∀ k : Nat, k < 20 → needN (k : Int) ≤ 7 := by decide +kernel
theorem order_get (k : Nat) (h : k < 19) : ∃ s, orderL[k]? = some s ∧ s < 19 ∧ orderC[k]? = some (.int .u8 (s : Int)) := by
  have : ∀ k : Nat, k < 19 → ∃ s, orderL[k]? = some s ∧ s < 19 ∧ orderC[k]? = some (.int .u8 (s : Int)) := by
    intro k hk
    rcases (show k = 0 ∨ k = 1 ∨ k = 2 ∨ k = 3 ∨ k = 4 ∨ k = 5 ∨ k = 6 ∨ k = 7 ∨ k = 8 ∨ k = 9 ∨ k = 10 ∨ k = 11 ∨ k = 12 ∨ k = 13 ∨ k = 14 ∨ k = 15 ∨ k = 16 ∨ k = 17 ∨ k = 18 by omega) with rfl | rfl | rfl | rfl | rfl | rfl | rfl | rfl | rfl | rfl | rfl | rfl | rfl | rfl | rfl | rfl | rfl | rfl | rfl
    all_goals exact ⟨_, rfl, by omega, rfl⟩
  exact this k h
theorem ordL_take (lit dist : List Nat) (k s : Nat) (h : orderL[k]? = some s) : (ordL lit dist).take (k + 1) = (ordL lit dist).take k ++ [ownF lit dist s] := by
  unfold ordL
  rw [List.take_add_one, List.getElem?_map, h]
  rfl
theorem fr_below {L : List Nat} {a b c : World} (h : Fr L a b) (k : Below a.heap.size b c) : Fr L a c :=
  ⟨k.os.trans h.os, k.tape.trans h.tape, k.output.trans h.output, Nat.le_trans h.size k.size, fun i hi hm => (k.block i hi).trans (h.block i hi hm)⟩
theorem lenS_le (F : Nat → Nat) (n m s : Nat) (h1 : 1 ≤ m) (hn : n ≤ 2 ^ m) : lenS (ctL F n) m s ≤ m :=
  lens_fits _ m h1 (by rw [← posN_sort]; exact Nat.le_trans (posN_le F n) hn) s
theorem own_le (lit dist : List Nat) (s : Nat) : ownF lit dist s ≤ 7 := lenS_le _ 19 7 s (by omega) (by omega)
theorem ordL_le (lit dist : List Nat) : ∀ x ∈ ordL lit dist, x ≤ 7 := fun x hx => by
  obtain ⟨s, _, rfl⟩ := List.mem_map.1 hx
  exact own_le lit dist s
/-- A head in memory: what its slices hold; where they lie. -/
structure HeadM (z : Nat) (lit dist : List Nat) (ao : Option Addr) (ag : Nat) (ar : Option Addr) (W : World) : Prop where
  ord : SlOf U8 1 W ao (ordL lit dist)
  own : Nrow W ag 5 .u8 19 (ownF lit dist)
  rs : SlOf RunE 2 W ar (rsL lit dist)
  zo : ∀ a, ao = some a → z ≤ a.block
  zg : z ≤ ag
  zr : ∀ a, ar = some a → z ≤ a.block
theorem HeadM.to {z : Nat} {lit dist : List Nat} {ao ar : Option Addr} {ag : Nat} {A B : World} {L : List Nat} (h : HeadM z lit dist ao ag ar A) (f : Fr L A B) (hL : ∀ i, i ∈ L → i < z) : HeadM z lit dist ao ag ar B :=
  ⟨h.ord.fr f fun a ha hm => by have := hL _ hm; have := h.zo a ha; omega, h.own.to f fun hm => by have := hL _ hm; have := h.zg; omega, h.rs.fr f fun a ha hm => by have := hL _ hm; have := h.zr a ha; omega, h.zo, h.zg, h.zr⟩
theorem own_blkE {w : World} {B : Nat} {e : TypeId} {sz n c : Nat} {a : Addr} {xs : List Value} (h : w.ownsRow B e sz (.slice (some a) n c) n xs) : B ≤ a.block := by
  rcases h.2 with ⟨h1, _⟩ | ⟨g, cap, cur, h1, hb, _⟩
  · cases h1
  · cases h1; exact hb
theorem set6 {w : World} {r : Nat} {T : TypeId} {c0 c1 c2 c3 c4 c5 : Value} (v0 v1 v2 v3 v4 v5 : Value) (h : w.heap[r]? = some (.cells #[c0, c1, c2, c3, c4, c5] T (0, 0))) :
    (((((((w).setCell ⟨r, 0, none⟩ v0).setCell ⟨r, 1, none⟩ v1).setCell ⟨r, 2, none⟩ v2).setCell ⟨r, 3, none⟩ v3).setCell ⟨r, 4, none⟩ v4).setCell ⟨r, 5, none⟩ v5).heap[r]? = some (.cells #[v0, v1, v2, v3, v4, v5] T (0, 0)) ∧ Fr [r] w (((((((w).setCell ⟨r, 0, none⟩ v0).setCell ⟨r, 1, none⟩ v1).setCell ⟨r, 2, none⟩ v2).setCell ⟨r, 3, none⟩ v3).setCell ⟨r, 4, none⟩ v4).setCell ⟨r, 5, none⟩ v5) := by
  have h6 := set_of (set_of (set_of (set_of (set_of (set_of h 0 v0) 1 v1) 2 v2) 3 v3) 4 v4) 5 v5
  exact ⟨by simpa using h6, (((((Fr.setCell _ _ _ _).trans (Fr.setCell _ _ _ _)).trans (Fr.setCell _ _ _ _)).trans (Fr.setCell _ _ _ _)).trans (Fr.setCell _ _ _ _)).trans (Fr.setCell _ _ _ _)⟩
def HdBox (w : World) (a b : Nat) (v : Value) (wx : World) : Prop :=
  ∃ hb, v = .pointer (some ⟨hb, 0, none⟩) ∧ w.heap.size ≤ hb ∧ wx.heap[hb]? = some (.cells #[.int .i64 (a : Int), .int .i64 (b : Int), .int .i64 0, .slice none 0 0, .slice none 0 0, .slice none 0 0] 58 (0, 0)) ∧ Fr [] w wx
theorem row_cap {w : World} {B : Nat} {e : TypeId} {sz n c : Nat} {a : Option Addr} {xs : List Value} (h : w.ownsRow B e sz (.slice a n c) n xs) : n ≤ c := by
  rcases h.2 with ⟨h1, h2⟩ | ⟨g, cap, cur, h1, _, _, h2, _⟩
  · omega
  · cases h1; exact h2
set_option maxRecDepth 100000 in
set_option maxHeartbeats 3200000 in
theorem heads_ok (aL aD : Option Addr) (cL cD : Nat) (lit dist : List Nat) (w : World) (hL : SlOf U8 1 w aL lit) (hD : SlOf U8 1 w aD dist) (h8 : ∀ x ∈ lit, x ≤ 15) (k8 : ∀ x ∈ dist, x ≤ 15) (hll : lit.length = 286) (hdl : dist.length = 30) (hcL : 286 ≤ cL) (hcD : 30 ≤ cD) :
    Calls Tryz.prog 23 #[.agg #[.slice aL lit.length cL, .slice aD dist.length cD]] w fun e w' => ∃ ao co ag ar cr, e = .returned (.agg #[.int .i64 ((uptoL lit 257 : Nat) : Int), .int .i64 ((uptoL dist 1 : Nat) : Int), .int .i64 ((uptoL (ordL lit dist) 4 : Nat) : Int), .slice ao 19 co, .slice (some ⟨ag, 0, none⟩) 19 19, .slice ar (rsL lit dist).length cr]) ∧ HeadM w.heap.size lit dist ao ag ar w' ∧ Fr [] w w' ∧ 19 ≤ co := by
  have HB := Lib.hid (And.intro hL (And.intro hD (And.intro h8 (And.intro k8 (And.intro hll hdl)))))
  have hU1 := Lib.hid (fun W (f : Fr [] w W) => bupto_ok aL cL lit 257 W (hL.fr0 f) (by omega) (fun x hx => by have := h8 x hx; omega))
  have hU2 := Lib.hid (fun W (f : Fr [] w W) => bupto_ok aD cD dist 1 W (hD.fr0 f) (by omega) (fun x hx => by have := k8 x hx; omega))
  obtain ⟨na, hna⟩ : ∃ na, uptoL lit 257 = na := ⟨_, rfl⟩
  obtain ⟨nb, hnb⟩ : ∃ nb, uptoL dist 1 = nb := ⟨_, rfl⟩
  have ha1 : 257 ≤ na := by rw [← hna]; exact uptoD_ge lit 257 _ (by omega)
  have ha2 : na ≤ 286 := by rw [← hna, ← hll]; exact uptoD_le lit 257 _
  have hb1 : 1 ≤ nb := by rw [← hnb]; exact uptoD_ge dist 1 _ (by omega)
  have hb2 : nb ≤ 30 := by rw [← hnb, ← hdl]; exact uptoD_le dist 1 _
  have hall : allL lit dist = lit.take na ++ dist.take nb := by unfold allL; rw [hna, hnb]
  rw [hna] at hU1
  rw [hnb] at hU2
  have hai : (na : Int) ≤ (cL : Int) := by omega
  have hbi : (nb : Int) ≤ (cD : Int) := by omega
  have HX := Lib.hid (And.intro ha1 (And.intro ha2 (And.intro hb1 (And.intro hb2 (And.intro hall (And.intro hna hnb))))))
  clear hL hD h8 k8 hll hdl hall hna hnb ha1 ha2 hb1 hb2
  go_enter Tryz.func23, Tryz.ntmps23
  go_upto_region 1 with fail
  obtain ⟨W3, hW3⟩ : ∃ W3, (w.alloc (.cells #[.slice aL lit.length cL, .slice aD dist.length cD] 45)).alloc (.cells #[.int .i64 0, .int .i64 0, .int .i64 0, .slice none 0 0, .slice none 0 0, .slice none 0 0] 58) = W3 := ⟨_, rfl⟩
  have f3 : Fr [] w W3 := by rw [← hW3]; exact (Fr.alloc _ _ _).trans (Fr.alloc _ _ _)
  have s3 : W3.heap.size = w.heap.size + 2 := by rw [← hW3]; simp
  have x0 : W3.heap[w.heap.size]? = some (.cells #[.slice aL lit.length cL, .slice aD dist.length cD] 45 (0, 0)) := by
    rw [← hW3]; exact (Fr.alloc [] _ _).blk (alloc_last w _) (by simp)
  have x1 : W3.heap[w.heap.size + 1]? = some (.cells #[.int .i64 0, .int .i64 0, .int .i64 0, .slice none 0 0, .slice none 0 0, .slice none 0 0] 58 (0, 0)) := by
    rw [← hW3]
    have := alloc_last (w.alloc (.cells #[.slice aL lit.length cL, .slice aD dist.length cD] 45)) (.cells #[.int .i64 0, .int .i64 0, .int .i64 0, .slice none 0 0, .slice none 0 0, .slice none 0 0] 58)
    simpa using this
  rw [hW3]
  have HW := Lib.hid (And.intro f3 (And.intro s3 (And.intro x0 x1)))
  have c0 := cell_of x0 0
  have c1 := cell_of x0 1
  simp at c0 c1
  clear hW3 f3 s3 x0 x1
  go_cut [3] from 9 to 15 (fun v3 wx => HdBox W3 na nb v3 wx)
  case first =>
    have n0 := World.new_ne W3 _ c0
    have n1 := World.new_ne W3 _ c1
    have U1 : Hid (∀ W, Fr [] W3 W → Calls Tryz.prog 39 #[.slice aL lit.length cL, .int .i64 257] W fun e w' => e = .returned (.int .i64 (na : Int)) ∧ w' = W) := Lib.hid (fun W (f : Fr [] W3 W) => hU1.out W (HW.out.1.trans f))
    have U2 : Hid (∀ W, Fr [] W3 W → Calls Tryz.prog 39 #[.slice aD dist.length cD, .int .i64 1] W fun e w' => e = .returned (.int .i64 (nb : Int)) ∧ w' = W) := Lib.hid (fun W (f : Fr [] W3 W) => hU2.out W (HW.out.1.trans f))
    go_region_held3 (fun w' => w'.cell? ⟨w.heap.size, 0, none⟩ = some (.slice aL lit.length cL) ∧ w'.cell? ⟨w.heap.size, 1, none⟩ = some (.slice aD dist.length cD)) (go_keep) (first | (go_at_call 39; (with_reducible refine (U1.out _ (by first | exact Fr.refl _ _ | exact Fr.drew (Fr.refl _ _) | exact (Fr.alloc _ _ _).drew)).mono ?_); rintro e w' ⟨rfl, rfl⟩) | (go_at_call 39; (with_reducible refine (U2.out _ (by first | exact Fr.refl _ _ | exact Fr.drew (Fr.refl _ _) | exact (Fr.alloc _ _ _).drew)).mono ?_); rintro e w' ⟨rfl, rfl⟩))
    all_goals go_wp2_with fail
    all_goals go_meet
    all_goals (case rel => exact ⟨_, rfl, Nat.le_refl _, alloc_last _ _, (Fr.alloc _ _ _).drew⟩)
  case rest =>
  obtain ⟨hb, rfl, hhb, hHB, hfc⟩ := hcut
  have x0 := hfc.blk HW.out.2.2.1 (by simp)
  have c0 := cell_of x0 0
  have c1 := cell_of x0 1
  have h0 := cell_of hHB 0
  have h1 := cell_of hHB 1
  have h5 := free_of hHB 5
  have h5c := cell_of hHB 5
  simp at c0 c1 h0 h1 h5c
  have HC := Lib.hid (And.intro hfc (And.intro x0 (And.intro hHB hhb)))
  clear x0 hHB hhb hfc
  go_upto_region 2 with fail
  clear hU1 hU2
  go_cut [] from 16 (fun wx => ∃ v, wx.heap[hb]? = some (.cells #[.int .i64 (na : Int), .int .i64 (nb : Int), .int .i64 0, .slice none 0 0, .slice none 0 0, v] 58 (0, 0)) ∧ wx.ownsRow wc.heap.size 87 2 v (rsL lit dist).length ((rsL lit dist).flatMap RunE) ∧ Fr [hb] wc wx)
  case first =>
    have SK := Lib.hid (fun W (f : Fr [] wc W) => (show W.cell? ⟨w.heap.size, 0, none⟩ = some (.slice aL lit.length cL) ∧ W.cell? ⟨w.heap.size, 1, none⟩ = some (.slice aD dist.length cD) ∧ W.cell? ⟨hb, 0, none⟩ = some (.int .i64 (na : Int)) ∧ W.cell? ⟨hb, 1, none⟩ = some (.int .i64 (nb : Int)) from by
      have e0 := cell_of (f.blk HC.out.2.1 (by simp)) 0
      have e1 := cell_of (f.blk HC.out.2.1 (by simp)) 1
      have e2 := cell_of (f.blk HC.out.2.2.1 (by simp)) 0
      have e3 := cell_of (f.blk HC.out.2.2.1 (by simp)) 1
      exact ⟨e0, e1, e2, e3⟩))
    have SK2 := Lib.hid (fun W (v : Value) (f : Fr [] wc W) => (show (W.setCell ⟨hb, 5, none⟩ v).cell? ⟨w.heap.size, 0, none⟩ = some (.slice aL lit.length cL) ∧ (W.setCell ⟨hb, 5, none⟩ v).cell? ⟨w.heap.size, 1, none⟩ = some (.slice aD dist.length cD) ∧ (W.setCell ⟨hb, 5, none⟩ v).cell? ⟨hb, 0, none⟩ = some (.int .i64 (na : Int)) ∧ (W.setCell ⟨hb, 5, none⟩ v).cell? ⟨hb, 1, none⟩ = some (.int .i64 (nb : Int)) from by
      have hne : w.heap.size ∉ [hb] := by have := HC.out.2.2.2; have := HW.out.2.1; simp; omega
      have e0 := cell_of ((Fr.setCell W hb 5 v).blk (f.blk HC.out.2.1 (by simp)) hne) 0
      have e1 := cell_of ((Fr.setCell W hb 5 v).blk (f.blk HC.out.2.1 (by simp)) hne) 1
      have e2 := cell_of (set_of (f.blk HC.out.2.2.1 (by simp)) 5 v) 0
      have e3 := cell_of (set_of (f.blk HC.out.2.2.1 (by simp)) 5 v) 1
      exact ⟨e0, e1, by simpa using e2, by simpa using e3⟩))
    have FW := Lib.hid (HW.out.1.trans HC.out.1)
    have PK : Hid (∀ g c W, W.ownsRow wc.heap.size 5 1 (.slice (some ⟨g, 0, none⟩) (na + nb) c) (na + nb) ((([] : List Value) ++ u8s (lit.take na)) ++ u8s (dist.take nb)) → Calls Tryz.prog 40 #[.slice (some ⟨g, 0, none⟩) (na + nb) c] W fun e w' => ∃ ao cp, e = .returned (.tuple #[.slice ao (rsL lit dist).length cp, .int .i64 0]) ∧ w'.ownsRow W.heap.size 87 2 (.slice ao (rsL lit dist).length cp) (rsL lit dist).length ((rsL lit dist).flatMap RunE) ∧ Fr [] W w') := Lib.hid (fun g c W hW => by
      obtain ⟨hL, hD, h8, k8, hll, hdl⟩ := HB.out
      obtain ⟨ha1, ha2, hb1, hb2, hall, _⟩ := HX.out
      have hln : (allL lit dist).length = na + nb := by rw [hall, List.length_append, List.length_take, List.length_take]; omega
      have hW2 : W.ownsRow wc.heap.size 5 1 (.slice (some ⟨g, 0, none⟩) (na + nb) c) (na + nb) (u8s (allL lit dist)) := by rw [hall, u8s_append]; exact hW
      have hp := rpack_ok (some ⟨g, 0, none⟩) c (allL lit dist) W (sl_own8 hW2 hln.symm) (by rw [hln]; exact own_cap hW) (by omega) (fun v hv => by
        rw [hall] at hv
        rcases List.mem_append.1 hv with h | h
        · exact h8 v (List.mem_of_mem_take h)
        · exact k8 v (List.mem_of_mem_take h))
      rw [hln] at hp
      refine hp.mono ?_
      rintro e w' ⟨v, rfl, hv, hf⟩
      obtain ⟨ao, cp, rfl⟩ := row_form hv
      exact ⟨ao, cp, rfl, hv, hf⟩)
    have EO := Lib.hid (show ((wc.alloc (.cells #[] 5)).drew).ownsRow wc.heap.size 5 1 (.slice (some ⟨wc.heap.size, 0, none⟩) 0 0) 0 [] from own_empty8 (alloc_last _ _) (Nat.le_refl _))
    have EF := Lib.hid (show Fr [] wc ((wc.alloc (.cells #[] 5)).drew) from (Fr.alloc _ _ _).drew)
    go_region_held3 (fun W => W.cell? ⟨w.heap.size, 0, none⟩ = some (.slice aL lit.length cL) ∧ W.cell? ⟨w.heap.size, 1, none⟩ = some (.slice aD dist.length cD) ∧ W.cell? ⟨hb, 0, none⟩ = some (.int .i64 (na : Int)) ∧ W.cell? ⟨hb, 1, none⟩ = some (.int .i64 (nb : Int)))
      (first | exact SK2.out _ _ HF5.out | exact SK.out _ HF5.out | exact SK.out _ HQ2.out.fr | exact SK.out _ HQ1.out.fr | exact SK.out _ EF.out | exact SK.out _ (Fr.drew (Fr.refl _ _)) | exact SK.out _ (Fr.refl _ _) | exact SK.out _ (Fr.alloc _ _ _))
      (first
        | (refine step_cat8 (o := ⟨some 23, _, _, _, _, _⟩) wc (by rfl) (.tmp 17) (.tmp 22) (by rfl) (.slice (some ⟨wc.heap.size, 0, none⟩) 0 0) 0 [] (by rfl) EO.out EF.out aL na cL lit (by rfl) (HB.out.1.fr0 (FW.out.trans EF.out)) (by have := HX.out.2.1; have := HB.out.2.2.2.2.1; omega) (by have := HX.out.1; omega) na (by omega) (by have := HX.out.2.1; omega) ?_; intro g1 c1 w1 HQ1)
        | (refine step_cat8 (o := ⟨some 29, _, _, _, _, _⟩) wc (by rfl) (.tmp 23) (.tmp 28) (by rfl) _ na _ (by rfl) HQ1.out.own HQ1.out.fr aD nb cD dist (by rfl) (HB.out.2.1.fr0 (FW.out.trans HQ1.out.fr)) (by have := HX.out.2.2.2.1; have := HB.out.2.2.2.2.2; omega) (by have := HX.out.2.2.1; omega) (na + nb) rfl (by have := HX.out.2.2.2.1; have := HX.out.2.1; omega) ?_; intro g2 c2 w2 HQ2)
        | (go_at_call 40; (with_reducible refine (PK.out _ _ _ HQ2.out.own).mono ?_); rintro e w5 ⟨ao, cp, rfl, hv5, hf5⟩; have HF5 := Lib.hid (HQ2.out.fr.trans hf5); have HV5 := Lib.hid hv5; have q5 := cell_of (HF5.out.blk HC.out.2.2.1 (by simp)) 5; have p5 := free_of (HF5.out.blk HC.out.2.2.1 (by simp)) 5; simp at q5; clear hv5 hf5))
    all_goals go_wp2_with fail
    all_goals go_meet
    case rel =>
      have hq := HC.out.2.2.1
      have hl := lt_of hq
      have hs2 := HQ2.out.fr.size
      obtain ⟨ga, hga⟩ : ∃ v, Value.slice ao (rsL lit dist).length cp = v := ⟨_, rfl⟩
      have hV := HV5.out
      rw [hga] at hV ⊢
      have hne : ga.ownBlock ≠ some hb := fun e => by have := (hV.lt hb e).1; omega
      exact ⟨ga, by have := set_of (HF5.out.blk hq (by simp)) 5 ga; simpa using this, ownsRow_setCell_other (a := ⟨hb, 5, none⟩) (ownsRow_base hV hs2) hne ga, HF5.out.nil.trans (Fr.setCell _ _ _ _)⟩
  case rest =>
  obtain ⟨vr, hB2, hrow, hf2⟩ := hcut
  obtain ⟨ar, cr, rfl⟩ := row_form hrow
  have h5 := cell_of hB2 5
  simp at h5
  have hbl := lt_of hB2
  have HR := Lib.hid (And.intro hB2 (And.intro hrow hf2))
  clear hB2 hrow hf2 h0 h1 c0 c1
  go_wp2_with fail
  rw [zc19]
  obtain ⟨V, hV⟩ : ∃ V, wc.alloc (.cells ((List.range 19).map fun j => Value.int .i64 (((fun _ => 0 : Nat → Nat) j : Nat) : Int)).toArray 85) = V := ⟨_, rfl⟩
  have fV : Fr [] wc V := by rw [← hV]; exact Fr.alloc _ _ _
  have nV : Nrow V wc.heap.size 85 .i64 19 (fun _ => 0) := by rw [← hV]; exact alloc_last _ _
  rw [hV]
  obtain ⟨gc, hgc⟩ : ∃ gc, wc.heap.size = gc := ⟨_, rfl⟩
  rw [hgc] at nV ⊢
  have hrl : (rsL lit dist).length ≤ 316 := by
    have h1 := packL_len (allL lit dist)
    obtain ⟨ha1, ha2, hb1, hb2, hall, _⟩ := HX.out
    have h2 : (allL lit dist).length ≤ 316 := by rw [hall, List.length_append, List.length_take, List.length_take]; omega
    unfold rsL; omega
  have hrk : ∀ p ∈ rsL lit dist, RunOk p := packL_ok _ (allL_ok HB.out.2.2.1 HB.out.2.2.2.1)
  obtain ⟨rs, hrs⟩ : ∃ rs, rsL lit dist = rs := ⟨_, rfl⟩
  rw [hrs] at hrl hrk HR h5 ⊢
  have hsr : SlOf RunE 2 wc ar rs := by
    obtain ⟨a0, cap, h1, h2⟩ := slOf_own (enc := RunE) (fun _ => rfl) HR.out.2.1 rfl
    cases h1
    exact h2
  have hrli : (rs.length : Int) ≤ 316 := by omega
  have hglt : hb < gc := by omega
  have HV := Lib.hid (And.intro fV (And.intro nV (And.intro hrl (And.intro hrk (And.intro hrs (And.intro hsr hgc))))))
  clear hV fV nV hgc hrl hrk hrs hsr h5 hbl
  go_loopw [37] (fun v37 wr => ∃ k : Nat, k ≤ rs.length ∧ v37 = .int .i64 (k : Int) ∧ Nrow wr gc 85 .i64 19 (cntR (rs.take k)) ∧ Fr [gc] V wr) (fun v37 _ => rs.length - (intOf v37).toNat)
  case atStart => exact ⟨0, by omega, rfl, HV.out.2.1.congr fun j hj => rfl, Fr.refl _ _⟩
  case round =>
    obtain ⟨k, hk, rfl, hN, hf⟩ := hrel
    by_cases hlt : k < rs.length
    · have hki : (k : Int) < (rs.length : Int) := by omega
      obtain ⟨p, hp⟩ : ∃ p, rs[k]? = some p := ⟨rs[k], List.getElem?_eq_getElem hlt⟩
      have hpm := List.mem_of_getElem? hp
      have hpk := HV.out.2.2.2.1 p hpm
      obtain ⟨b, o, rfl, hbl, hcell⟩ := HV.out.2.2.2.2.2.1 (by intro h; rw [h] at hp; simp at hp)
      have fall : Fr [gc] wc wr := HV.out.1.nil.trans hf
      have hbg : b ∉ [gc] := by have := HV.out.2.2.2.2.2.2; simp; omega
      have e1 : ∀ j, wr.cell? ⟨b, j, none⟩ = wc.cell? ⟨b, j, none⟩ := fun j => by unfold World.cell?; rw [fall.block b hbl hbg]
      have c0 := hcell k p hp 0 (.int .u8 (p.1 : Int)) rfl
      have c1 := hcell k p hp 1 (.int .u8 (p.2 : Int)) rfl
      rw [← e1, Nat.add_zero] at c0
      rw [← e1, ← Nat.add_assoc] at c1
      obtain ⟨p1, p2⟩ := p
      simp only at c0 c1
      have hp1 : p1 < 19 := by have := hpk.1; simp only at this; omega
      have hp1i : (p1 : Int) < 19 := by omega
      have hc1 := hN.cell p1 hp1
      have hz := free_of hN p1
      have hcl := cntR_le (rs.take k) p1
      rw [List.length_take] at hcl
      have HT := Lib.hid (fun i => cntR_take rs k (p1, p2) hp i)
      obtain ⟨T, hT⟩ : ∃ T, cntR (rs.take k) p1 = T := ⟨_, rfl⟩
      rw [hT] at hc1 hcl
      have hTi : (T : Int) ≤ 316 := by have := HV.out.2.2.1; omega
      have hgr := lt_of hN
      have HN := Lib.hid (And.intro hN (And.intro hf hT))
      clear hN hf hT hp hpm hpk hcell e1 hbg fall
      go_wp2_with fail
      obtain ⟨hN, hf, hT⟩ := HN.out
      have s1 := hN.set_ (G := cntR (rs.take (k + 1))) p1 (T + 1) (fun j hj => by rw [HT.out j]; simp only [hT])
      have e1 : ((T + 1 : Nat) : Int) = (T : Int) + 1 := by omega
      rw [e1] at s1
      exact ⟨⟨k + 1, by omega, by go_num, s1.to (Fr.alloc [] _ _) (by simp), hf.trans ((Fr.setCell _ _ _ _).trans (Fr.alloc _ _ _))⟩, by simp [intOf]; omega⟩
    · have hke : k = rs.length := by omega
      subst hke
      rw [List.take_of_length_le (Nat.le_refl _)] at hN
      have hki : ¬ ((rs.length : Int) < (rs.length : Int)) := by omega
      have HL := Lib.hid (lens_few gc 19 19 7 85 (cntR rs) wr hN (by omega) (fun i _ => by have := cntR_le rs i; have := HV.out.2.2.1; omega) (by omega) (by omega) (fun k hk => needN_19 k (by omega)))
      have HN := Lib.hid (And.intro hN hf)
      clear hN hf hk hlt
      go_wp2_with fail
      refine HL.out.mono ?_
      rintro e w5 ⟨ag, rfl, hag, hNg, f5⟩
      have fall : Fr [gc] wc w5 := (HV.out.1.nil.trans HN.out.2).trans f5.nil
      have hgc := HV.out.2.2.2.2.2.2
      have hH := fall.blk HR.out.1 (by simp; omega)
      have h4 := cell_of hH 4
      have h4f := free_of hH 4
      simp at h4
      have HG := Lib.hid (And.intro hag (And.intro hNg (And.intro fall hH)))
      clear hag hNg f5 fall hH HL
      go_wp2_with fail
      refine (order_ok _).mono ?_
      rintro e w6 ⟨rfl, ho6, f6⟩
      have e5 : (w5.setCell ⟨hb, 4, none⟩ (.slice (some ⟨ag, 0, none⟩) 19 19)).heap.size = w5.heap.size := by simp [World.setCell]
      rw [e5] at ho6 ⊢
      have hbw := lt_of HG.out.2.2.2
      have hagw := lt_of HG.out.2.1
      have fs := Fr.setCell w5 hb 4 (.slice (some ⟨ag, 0, none⟩) 19 19)
      have hH6 := f6.blk (set_of HG.out.2.2.2 4 (.slice (some ⟨ag, 0, none⟩) 19 19)) (by simp)
      have hgwr := HN.out.2.size
      have hgV := lt_of HV.out.2.1
      have hagb : ag ≠ hb := by have := HG.out.1; omega
      have hN6 := (HG.out.2.1.to fs (by simpa using hagb)).to f6 (by simp)
      have HO := Lib.hid (And.intro ho6 (And.intro hN6 (And.intro hH6 (And.intro fs (And.intro f6 hagb)))))
      have hw6 := f6.size
      rw [e5] at hw6
      have hbw6 : hb < w6.heap.size := by omega
      clear ho6 f6 h4 h4f hH6 hN6 fs e5 hagb hgwr hgV
      go_wp2_with fail
      go_loopw [56] (fun v56 wr => ∃ (k : Nat) (v : Value), k ≤ 19 ∧ v56 = .int .i64 (k : Int) ∧ wr.heap[hb]? = some (.cells #[.int .i64 (na : Int), .int .i64 (nb : Int), .int .i64 0, v, .slice (some ⟨ag, 0, none⟩) 19 19, .slice ar rs.length cr] 58 (0, 0)) ∧ wr.ownsRow w6.heap.size 5 1 v k (u8s ((ordL lit dist).take k)) ∧ Fr [hb] w6 wr) (fun v56 _ => 19 - (intOf v56).toNat)
      case atStart => exact ⟨0, .slice none 0 0, by omega, rfl, by have := HO.out.2.2.1; simpa using this, World.ownsRow_nil _ _ _ _, Fr.refl _ _⟩
      case round =>
        obtain ⟨k, v, hk, rfl, hH, hrow, hf⟩ := hrel
        by_cases hlt : k < 19
        · have hki : (k : Int) < 19 := by omega
          obtain ⟨s, hs1, hs2, hs3⟩ := order_get k hlt
          have hsi : (s : Int) < 19 := by omega
          have hO := hf.blk HO.out.1 (by simp; omega)
          have oc := cell_of hO k
          rw [hs3] at oc
          have nc := (HO.out.2.1.to hf (by simpa using HO.out.2.2.2.2.2)).cell s hs2
          have h3 := cell_of hH 3
          have h4 := cell_of hH 4
          have h3f := free_of hH 3
          obtain ⟨ao, co, rfl⟩ := row_form hrow
          simp at h3 h4
          have hbr := lt_of hH
          have HT := Lib.hid (ordL_take lit dist k s hs1)
          obtain ⟨y, hy⟩ : ∃ y, ownF lit dist s = y := ⟨_, rfl⟩
          have hy2 : lenS (ctL (cntR rs) 19) 7 s = y := by rw [← hy]; unfold ownF; rw [HV.out.2.2.2.2.1]
          rw [hy2] at nc
          rw [hy] at HT
          have HH := Lib.hid (And.intro hH (And.intro hrow hf))
          clear hO hs1 hs3 hH hrow hf hy hy2
          have hAw : Fr [] wr (wr.alloc (.cells #[.int .u8 (y : Int)] 5)).drew := (Fr.alloc _ _ _).drew
          have hw6r := HH.out.2.2.size
          have R0 := Lib.hid (show ((wr.alloc (.cells #[.int .u8 (y : Int)] 5)).drew).ownsRow w6.heap.size 5 1 (.slice ao k co) k (u8s ((ordL lit dist).take k)) from ownsRow_to HH.out.2.1 hAw (by simp))
          have R1 := Lib.hid (show Below w6.heap.size wr (wr.alloc (.cells #[.int .u8 (y : Int)] 5)).drew from hAw.below.mono hw6r)
          have R2 := Lib.hid (show ((wr.alloc (.cells #[.int .u8 (y : Int)] 5)).drew).heap[wr.heap.size]? = some (.cells #[.int .u8 (y : Int)] 5 (0, 0)) from alloc_last _ _)
          have R3 := Lib.hid (show w6.heap.size ≤ ((wr.alloc (.cells #[.int .u8 (y : Int)] 5)).drew).heap.size by have := hAw.size; omega)
          clear hAw
          go_wp2_with fail
          go_region_law ((refine step_push w6.heap.size wr _ (by rfl) (.tmp 61) (.tmp 67) 36 (by rfl) 5 1 1 u8Elem (.slice ao k co) k _ (by rfl) R0 R1 R3.out #[.int .u8 (y : Int)] wr.heap.size 1 1 (by rfl) R2.out (by rfl) (by rfl) (by omega) (by omega) (by omega) ?_; intro g8 c8 w8 HQ; have q8 := (HQ.out.2.2.1.block hb hbw6).trans HH.out.1; have k3 := cell_of q8 3; have k3f := free_of q8 3; simp at k3; clear q8))
          all_goals go_wp2_with (fail_if_success go_outline)
          all_goals (
            obtain ⟨hrow8, hgr8, hbel8, hge8⟩ := HQ.out
            have s8 := set_of ((hbel8.block hb hbw6).trans HH.out.1) 3 (.slice (some ⟨g8, 0, none⟩) (k + 1) c8)
            refine ⟨⟨k + 1, _, by omega, by go_num, by simpa using s8, ?_, ((fr_below HH.out.2.2 hbel8).trans (Fr.setCell _ _ _ _))⟩, by simp [intOf]; omega⟩
            have r8 := ownsRow_setCell_other hrow8 (a := ⟨hb, 3, none⟩) (by simp [Value.ownBlock]; omega) (.slice (some ⟨g8, 0, none⟩) (k + 1) c8)
            rw [HT.out, u8s_append]
            exact r8)
        · have hke : k = 19 := by omega
          subst hke
          have hln : (ordL lit dist).length = 19 := by unfold ordL; rw [List.length_map]; rfl
          rw [List.take_of_length_le (by omega)] at hrow
          obtain ⟨ao, co, rfl⟩ := row_form hrow
          have h3 := cell_of hH 3
          have h2 := cell_of hH 2
          have h2f := free_of hH 2
          simp at h3 h2
          have hsl : SlOf U8 1 wr ao (ordL lit dist) := sl_own8 hrow hln.symm
          have hbr := lt_of hH
          have HUP := Lib.hid (bupto_ok ao co (ordL lit dist) 4 wr hsl (by omega) (fun x hx => by have := ordL_le lit dist x hx; omega))
          rw [hln] at HUP
          have HUP2 : Hid (Calls Tryz.prog 39 #[.slice ao 19 co, .int .i64 4] wr fun e w' => e = .returned (.int .i64 ((uptoL (ordL lit dist) 4 : Nat) : Int)) ∧ w' = wr) := HUP
          have h0 := cell_of hH 0
          have h1 := cell_of hH 1
          have h4 := cell_of hH 4
          have h5 := cell_of hH 5
          simp at h0 h1 h4 h5
          have hhb : w.heap.size + 2 ≤ hb := by have := HC.out.2.2.2; have := HW.out.2.1; omega
          have hgc := HV.out.2.2.2.2.2.2
          have F1 : Fr [hb, gc] W3 wr := by
            have a1 : Fr [hb, gc] W3 _ := HC.out.1.nil
            have a2 := a1.trans (HR.out.2.2.mono (by simp))
            have a3 := a2.trans (HG.out.2.2.1.mono (by simp))
            have a4 := a3.trans (HO.out.2.2.2.1.mono (by simp))
            have a5 := a4.trans HO.out.2.2.2.2.1.nil
            exact a5.trans (hf.mono (by simp))
          have hR := F1.blk HW.out.2.2.2 (by simp; omega)
          have r0 := cell_of hR 0
          have r1 := cell_of hR 1
          have r2 := cell_of hR 2
          have r3 := cell_of hR 3
          have r4 := cell_of hR 4
          have r5 := cell_of hR 5
          have g0 := free_of hR 0
          have g1 := free_of hR 1
          have g2 := free_of hR 2
          have g3 := free_of hR 3
          have g4 := free_of hR 4
          have g5 := free_of hR 5
          simp at r0 r1 r2 r3 r4 r5
          obtain ⟨kl, hkl⟩ : ∃ kl, uptoL (ordL lit dist) 4 = kl := ⟨_, rfl⟩
          rw [hkl] at HUP2
          have hne1 : hb ≠ w.heap.size + 1 := by omega
          have HH := Lib.hid (And.intro hH (And.intro hrow (And.intro hf (And.intro hsl (And.intro F1 (And.intro hR (And.intro hhb (And.intro hgc hkl))))))))
          clear hH hrow hf hsl F1 hR hhb hgc hkl
          go_wp2_with fail
          refine HUP2.out.mono ?_
          rintro e w9 ⟨rfl, hw9⟩
          replace hw9 := hw9.symm
          subst hw9
          clear HUP HUP2
          go_wp2_with fail
          obtain ⟨hH, hrow, hf, hsl, F1, hR, hhb, hgc, hkl⟩ := HH.out
          have fh : Fr [hb] wr (wr.setCell ⟨hb, 2, none⟩ (.int .i64 (kl : Int))) := Fr.setCell _ _ _ _
          have hR1 := fh.blk hR (by simp; omega)
          obtain ⟨hR6, f6⟩ := set6 (.int .i64 (na : Int)) (.int .i64 (nb : Int)) (.int .i64 (kl : Int)) (.slice ao 19 co) (.slice (some ⟨ag, 0, none⟩) 19 19) (.slice ar rs.length cr) hR1
          have FA : Fr [hb, w.heap.size + 1] wr _ := (fh.mono (by simp)).trans (f6.mono (by simp))
          (try simp only [Exit.inBlock, Exit.then])
          refine bodyPost_ret (results_cell_row rfl _ _ (w.heap.size + 1) 58 _ _ _ rfl hR6 Tryz.underlying58 rfl (by kernel_rfl)) rfl ?_
          obtain ⟨_, _, _, _, _, hna, hnb⟩ := HX.out
          rw [hna, hnb, hkl, HV.out.2.2.2.2.1]
          have hc0 := HC.out.2.2.2
          have hw3 := HW.out.2.1
          have hzr := HR.out.2.1
          have hhw := lt_of HC.out.2.2.1
          have hw6 : hb < w6.heap.size := hbw6
          have hlR := lt_of hR
          have hgw := HG.out.1
          have hsw5 := lt_of HG.out.2.2.2
          have hres : w.heap.size + 1 < w6.heap.size := by omega
          refine ⟨ao, co, ag, ar, cr, rfl, ⟨?_, ?_, ?_, ?_, ?_, ?_⟩, ?_, row_cap hrow⟩
          · exact hsl.fr FA fun a ha hm => by
              subst ha
              have h9 := own_blkE hrow
              simp at hm
              omega
          · have h9 := (HO.out.2.1.to hf (by simpa using HO.out.2.2.2.2.2)).to FA (by simp; exact ⟨HO.out.2.2.2.2.2, by have := HV.out.1.size; have := HN.out.2.size; omega⟩)
            refine h9.congr fun j hj => ?_
            unfold ownF
            rw [HV.out.2.2.2.2.1]
          · have F2 : Fr [hb, gc, w.heap.size + 1] wc _ := ((((HG.out.2.2.1.mono (by simp)).trans (HO.out.2.2.2.1.mono (by simp))).trans HO.out.2.2.2.2.1.nil).trans (hf.mono (by simp))).trans (FA.mono (by simp))
            rw [HV.out.2.2.2.2.1]
            refine HV.out.2.2.2.2.2.1.fr F2 fun a ha hm => ?_
            subst ha
            have h9 := own_blkE hzr
            have h10 := (hzr.lt a.block (by simp [Value.ownBlock])).2
            simp at hm
            omega
          · intro a ha
            subst ha
            have h9 := own_blkE hrow
            omega
          · have := HV.out.1.size; have := HN.out.2.size; omega
          · intro a ha
            subst ha
            have h9 := own_blkE hzr
            omega
          · refine FA.outL (F1.outL HW.out.1 (by simp; omega)) (by simp; omega)
end Go.Proofs.YtciejmlhdmjajaaGreat

