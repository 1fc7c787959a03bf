/- The document's Put, Get and Small. -/
import Derived.Test.YtlognooioemenaaWd
import Derived.Test.YtlognooioemenaaBv
namespace Go.Proofs.Ytlognooioemenaa
open Go.RowKit
set_option linter.unusedVariables false
set_option linter.unusedSimpArgs false

theorem fr_row {w w0 w4 : World} {o : Obj} {e : TypeId} {v : Value} {n : Nat} {xs : List Value} (h : Fr [] w0 w) (k : w.ownsRow w0.heap.size e 1 v n xs) (g : (w.alloc o).grownBy w4 v.ownBlock) : Fr [] w0 w4 := by
  have f : Fr v.ownBlock.toList w w4 := by
    refine ⟨g.os, g.tape, g.output, ?_, fun i hi hl => ?_⟩
    · have := g.size; simp at this; omega
    · rw [g.block i (by simp; omega) (fun e => hl (by simp [← e]))]
      exact heap_alloc_old w o hi
  exact f.outL h (fun i hi => .inr (k.lt i (by simpa using hi)).1)
theorem rget_step (s : ByteArray) (q c k d : Nat) (hq : q + k ≤ s.size) (hk : c < k) (hd : q + c = d) (hs : d < s.size) :
    256 * (num s / 2 ^ (8 * (q + (c + 1))) % 2 ^ (8 * (k - (c + 1)))) + (s[d]).toNat = num s / 2 ^ (8 * (q + c)) % 2 ^ (8 * (k - c)) := by
  subst hd
  have hg := numL_get s.data.toList (q + c) (by simpa using hs)
  have hg' : (s[q + c]).toNat = num s / 2 ^ (8 * (q + c)) % 256 := by rw [num, ← hg]; rfl
  rw [hg', show 8 * (q + (c + 1)) = 8 * (q + c) + 8 by omega, Nat.pow_add, ← Nat.div_div_eq_div_mul, show 8 * (k - c) = 8 + 8 * (k - (c + 1)) by omega, Nat.pow_add, Nat.mod_mul]
  omega

set_option maxRecDepth 100000 in
set_option maxHeartbeats 1600000 in
theorem rput_any (n : Nat) (size : Int) (w : World) (hn : n < 2 ^ 64) (hs : -9223372036854775808 ≤ size) (hs1 : size ≤ 9223372036854775807) :
    Calls Try.prog 45 #[.int .u64 n, .int .i64 size] w fun e w' => e = .returned (.tuple #[.string (putS n size), .bool (putB n size)]) ∧ Fr [] w w' := by
  by_cases h0 : size < 1 ∨ 8 < size
  · have e : putB n size = false := by unfold putB; apply decide_eq_false; omega
    have e1 : putS n size = ByteArray.empty := by unfold putS; rw [e]; rfl
    rw [e, e1]
    rcases h0 with h | h
    all_goals
      go_enter Try.func45, Try.ntmps45
      go_wp2
      go_ret2
      exact ⟨rfl, Fr.refl _ _⟩
  obtain ⟨k, rfl⟩ := Int.eq_ofNat_of_zero_le (show 0 ≤ size by omega)
  have i1 : 1 ≤ (k : Int) := by omega
  have i2 : (k : Int) ≤ 8 := by omega
  clear h0 hs hs1
  go_enter Try.func45, Try.ntmps45
  go_wp2_with fail
  go_loopw [0, 6, 7] (fun x v i wr => ∃ j m : Nat, j ≤ k ∧ n / 2 ^ (8 * j) = m ∧ i = .int .i64 j ∧ x = .int .u64 m ∧ wr.ownsRow w.heap.size 5 1 v j (Lib.byteCells (lebL n j)) ∧ Fr [] w wr) (fun _ _ i _ => k - (intOf i).toNat)
  case atStart => exact ⟨0, n, Nat.zero_le _, by simp, rfl, rfl, World.ownsRow_nil _ _ _ _, Fr.refl _ _⟩
  case round =>
    obtain ⟨j, m, hj, hm, rfl, rfl, hrow, hF⟩ := hrel
    by_cases hjk : j < k
    · obtain ⟨r, hr⟩ : ∃ r, m % 256 = r := ⟨_, rfl⟩
      have hr2 : (m : Int) % 256 = (r : Int) := by omega
      have hr3 : (r : Int) ≤ 255 := by omega
      have hbk := byte_cells n j
      rw [hm, hr] at hbk
      have hm64 : m < 2 ^ 64 := by rw [← hm]; exact Nat.lt_of_le_of_lt (Nat.div_le_self _ _) hn
      have hc1 : j + 1 ≤ maxLen := by unfold maxLen; omega
      have hc2 : (j + 1) * 1 ≤ 140737488355328 := by omega
      have hone : ∀ u ∈ [Value.int .u8 (r : Int)], u.oneCell' = true := by intro u hu; simp at hu; subst hu; rfl
      have hnew := cell_one_new wr (.int .u8 (r : Int)) 5
      obtain ⟨i0, hi, hz0, hz1, hz2⟩ := u8info
      have hsz := hF.size
      have hsz2 : w.heap.size ≤ (wr.alloc (.cells #[.int .u8 (r : Int)] 5)).heap.size := by simp; omega
      have HI0 := Lib.hid hi
      have HIz := Lib.hid hz0
      have HIs := Lib.hid hz1
      have HIb := Lib.hid hz2
      have HROW := Lib.hid hrow
      have HNEW := Lib.hid hnew
      have HONE := Lib.hid hone
      have HBK := Lib.hid hbk
      have HM := Lib.hid hm
      have HR := Lib.hid hr
      clear hbk hm hr hrow hnew hone hi hz0 hz1 hz2
      go_wp2_with (at_builtin; refine wpList_append_lies _ rfl (.tmp 19) (.tmp 23) 50 rfl w.heap.size 5 i0 (.int .u8 0) 1 1 Try.underlying50 HI0.out HIz.out HIs.out HIb.out rfl (by decide) u6 j _ rfl (by exact HROW.out.alloc _) ⟨wr.heap.size, 0, none⟩ 1 1 [.int .u8 (r : Int)] rfl rfl (by exact HNEW.out) HONE.out (by decide) hc1 hc2 hsz2 _ rfl ?_; intro g cap w4 hown4 hgrow4 hg4 hlt4)

      go_roundw
      case rel => exact ⟨j + 1, m / 256, by omega, by rw [← HM.out, Nat.mul_succ, Nat.pow_add, Nat.div_div_eq_div_mul], by go_num, by go_num, HBK.out ▸ hown4, fr_row hF HROW.out hgrow4⟩
      case measure => simp [intOf]; omega
    · have hje : j = k := by omega
      subst hje
      have hcv := run_convert_own wr 50 9 5 Try.underlying50 Try.underlying5 Try.underlying9 w.heap.size _ _ _ hrow
      by_cases hf : n < 2 ^ (8 * j)
      · have e : putB n j = true := by unfold putB; apply decide_eq_true; simp; omega
        have e1 : putS n j = ⟨(lebL n j).toArray⟩ := by unfold putS; rw [e]; simp [leb]
        have hm0 : m = 0 := by rw [← hm, Nat.div_eq_of_lt hf]
        subst hm0
        have HE := Lib.hid (And.intro e e1)
        clear hm e e1 hrow hf
        go_wp2
        go_ret2
        exact ⟨by rw [HE.out.1, HE.out.2]; rfl, hF⟩
      · have e : putB n j = false := by unfold putB; apply decide_eq_false; simp; omega
        have e1 : putS n j = ByteArray.empty := by unfold putS; rw [e]; rfl
        have hm0 : 0 < m := by rw [← hm]; exact Nat.div_pos (by omega) (Nat.pow_pos (by decide))
        have HE := Lib.hid (And.intro e e1)
        clear hm e e1 hrow hf hcv
        go_wp2
        go_ret2
        exact ⟨by rw [HE.out.1, HE.out.2]; rfl, hF⟩

set_option maxRecDepth 100000 in
set_option maxHeartbeats 1600000 in
theorem rsmall_any (n size : Int) (w : World) (hn : -9223372036854775808 ≤ n) (hn1 : n ≤ 9223372036854775807) (hs : -9223372036854775808 ≤ size) (hs1 : size ≤ 9223372036854775807) :
    Calls Try.prog 49 #[.int .i64 n, .int .i64 size] w fun e w' => e = .returned (.tuple #[.int .u64 (smallN n size : Int), .bool (smallB n size)]) ∧ Fr [] w w' := by
  by_cases h0 : n < 0
  · have e : smallB n size = false := by simp [smallB]; omega
    have e1 : smallN n size = 0 := by unfold smallN; rw [e]; rfl
    rw [e, e1]
    clear e e1
    go_enter Try.func49, Try.ntmps49
    go_wp2
    go_ret2
    exact ⟨rfl, Fr.refl _ _⟩
  · obtain ⟨m, rfl⟩ := Int.eq_ofNat_of_zero_le (show 0 ≤ n by omega)
    have hm64 : m < 2 ^ 64 := by omega
    have hw : IntKind.u64.wrap (m : Int) = (m : Int) := by rw [IntKind.wrap_u64]; omega
    have i1 : 0 ≤ (m : Int) := by omega
    have eb : smallB m size = putB m size := by simp [smallB]
    have en : smallN m size = if putB m size then m else 0 := by unfold smallN; rw [eb]; rfl
    rw [eb, en]
    clear eb en h0 hn
    cases hp : putB m size
    all_goals
      have HP := Lib.hid hp
      clear hp
      go_enter Try.func49, Try.ntmps49
      go_wp2_with fail
      refine (rput_any m size _ hm64 hs hs1).mono ?_
      rintro e w1 ⟨rfl, f1⟩
      rw [HP.out]
      go_wp2_with fail
      go_ret2
      exact ⟨rfl, f1⟩

set_option maxRecDepth 100000 in
set_option maxHeartbeats 1600000 in
theorem rget_any (s : ByteArray) (p size : Int) (w : World) (hs : s.size ≤ 1000000000) (hp : -9223372036854775808 ≤ p) (hp1 : p ≤ 9223372036854775807) :
    Calls Try.prog 47 #[.string s, .int .i64 p, .int .i64 size] w fun e w' => e = .returned (.tuple #[.int .u64 (getN s p size : Int), .bool (getB s p size)]) ∧ Fr [] w w' := by
  have i0 : (s.size : Int) ≤ 1000000000 := by omega
  by_cases hok : 1 ≤ size ∧ size ≤ 8 ∧ 0 ≤ p ∧ p ≤ s.size ∧ size ≤ (s.size : Int) - p
  · have e : getB s p size = true := decide_eq_true hok
    obtain ⟨g1, g2, g3, g4, g5⟩ := hok
    obtain ⟨k, rfl⟩ := Int.eq_ofNat_of_zero_le (show 0 ≤ size by omega)
    obtain ⟨q, rfl⟩ := Int.eq_ofNat_of_zero_le g3
    have e1 : getN s q k = num s / 2 ^ (8 * q) % 2 ^ (8 * k) := by unfold getN; rw [e]; simp
    obtain ⟨Y, hY⟩ : ∃ Y : Nat, num s / 2 ^ (8 * q) % 2 ^ (8 * k) = Y := ⟨_, rfl⟩
    rw [e, e1, hY]
    have HY := Lib.hid hY
    clear e e1 hp hp1 hY
    go_enter Try.func47, Try.ntmps47
    go_wp2_with fail
    go_loop [8, 9] (fun n i => ∃ j m : Nat, j ≤ k ∧ q + j = m ∧ i = .int .i64 m ∧ n = .int .u64 ((num s / 2 ^ (8 * (q + j)) % 2 ^ (8 * (k - j)) : Nat) : Int)) (fun _ i => (intOf i).toNat)
    case atStart => exact ⟨k, q + k, Nat.le_refl _, rfl, by go_num, by simp [Nat.mod_one]⟩
    case round =>
      obtain ⟨j, m, hj, hm, rfl, rfl⟩ := hrel
      by_cases hjk : 0 < j
      · obtain ⟨c, rfl⟩ : ∃ c, j = c + 1 := ⟨j - 1, by omega⟩
        obtain ⟨d, hd⟩ : ∃ d, q + c = d := ⟨_, rfl⟩
        have hms : d < s.size := by omega
        have hst := rget_step s q c k d (by omega) (by omega) hd hms
        have hsum : (m : Int) - 1 = (d : Int) := by omega
        have hmq : q < m := by omega
        have hix := run_index_text (P := Try.prog) w 9 s .i64 d Try.underlying9 hms
        have hN : num s / 2 ^ (8 * (q + (c + 1))) % 2 ^ (8 * (k - (c + 1))) < 2 ^ 56 := Nat.lt_of_lt_of_le (Nat.mod_lt _ (Nat.pow_pos (by decide))) (Nat.pow_le_pow_right (by decide) (by omega))
        have HST := Lib.hid hst
        have HD := Lib.hid (And.intro hd hm)
        generalize num s / 2 ^ (8 * (q + (c + 1))) % 2 ^ (8 * (k - (c + 1))) = X at *
        have hb := (s[d]).toNat_lt
        have hbw : IntKind.u64.wrap (s[d].toNat : Int) = (s[d].toNat : Int) := by rw [IntKind.wrap_u64]; omega
        have hN' : (X : Int) ≤ 72057594037927935 := by omega
        clear hst hm hd hN
        go_wp2
        go_round
        case rel => exact ⟨c, d, by omega, HD.out.1, by go_num, by rw [← HST.out]; go_num⟩
        case measure => simp [intOf]; omega
      · have hje : j = 0 := by omega
        subst hje
        have hmq : m = q := by omega
        subst hmq
        have hY := HY.out
        obtain ⟨Z, hZ⟩ : ∃ Z, num s / 2 ^ (8 * (m + 0)) % 2 ^ (8 * (k - 0)) = Z := ⟨_, rfl⟩
        have hZY : Z = Y := by rw [← hZ, ← hY]; rfl
        rw [hZ, hZY]
        clear hm hY hZ hZY
        go_wp2
        go_ret2
        exact ⟨rfl, Fr.refl _ _⟩
  · have e : getB s p size = false := decide_eq_false hok
    have e1 : getN s p size = 0 := by unfold getN; rw [e]; rfl
    rw [e, e1]
    by_cases h1 : size < 1
    · go_enter Try.func47, Try.ntmps47
      go_wp2
      go_ret2
      exact ⟨rfl, Fr.refl _ _⟩
    by_cases h2 : 8 < size
    · go_enter Try.func47, Try.ntmps47
      go_wp2
      go_ret2
      exact ⟨rfl, Fr.refl _ _⟩
    by_cases h3 : p < 0
    · go_enter Try.func47, Try.ntmps47
      go_wp2
      go_ret2
      exact ⟨rfl, Fr.refl _ _⟩
    by_cases h4 : (s.size : Int) < p
    · go_enter Try.func47, Try.ntmps47
      go_wp2
      go_ret2
      exact ⟨rfl, Fr.refl _ _⟩
    have h5 : (s.size : Int) - p < size := by omega
    clear hok
    go_enter Try.func47, Try.ntmps47
    go_wp2
    go_ret2
    exact ⟨rfl, Fr.refl _ _⟩
end Go.Proofs.Ytlognooioemenaa
