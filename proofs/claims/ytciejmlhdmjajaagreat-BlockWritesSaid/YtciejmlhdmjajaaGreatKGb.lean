/- (For the great seat.) The reference's bits, one by one: plain, and in memory. (For the great seat.) The reference's Put and Code. -/
import Derived.Test.YtciejmlhdmjajaaGreatKEi
import Derived.Test.YtciejmlhdmjajaaGreatKWc
import Derived.Test.YtciejmlhdmjajaaGreatKCa
import Derived.Test.YtciejmlhdmjajaaGreatKBw
namespace Go.Proofs.YtciejmlhdmjajaaGreat
open Go.RowKit
set_option linter.unusedVariables false
set_option linter.unusedSimpArgs false

/-- The lowest L bits of N. -/
def blN (N L : Nat) : List Nat := (List.range L).map fun i => N / 2 ^ i % 2
theorem blN_len (N L : Nat) : (blN N L).length = L := by simp [blN]
theorem blN_push (N L b : Nat) (h : N < 2 ^ L) (hb : b < 2) : blN (N + b * 2 ^ L) (L + 1) = blN N L ++ [b] := by
  unfold blN
  rw [List.range_succ, List.map_append]
  congr 1
  · apply List.map_congr_left
    intro i hi
    have hi := List.mem_range.1 hi
    have e : 2 ^ L = 2 ^ i * (2 * 2 ^ (L - i - 1)) := by
      rw [← Nat.mul_assoc, ← Nat.pow_succ, ← Nat.pow_add]; congr 1; omega
    rw [e, ← Nat.mul_assoc, Nat.mul_comm b, Nat.mul_assoc, Nat.add_mul_div_left _ _ (Nat.pow_pos (by decide)), Nat.mul_left_comm, Nat.add_mul_mod_self_left]
  · simp only [List.map_cons, List.map_nil]
    rw [Nat.add_mul_div_right _ _ (Nat.pow_pos (by decide)), Nat.div_eq_of_lt h, Nat.zero_add, Nat.mod_eq_of_lt hb]
theorem step_mod (n i : Nat) : n % 2 ^ (i + 1) = n % 2 ^ i + (n / 2 ^ i % 2) * 2 ^ i := by
  rw [Nat.pow_succ, Nat.mod_mul, Nat.mul_comm (2 ^ i)]
theorem step_put (D : Nat × Nat) (n i : Nat) : putP (putP D (n % 2 ^ i, i)) (n / 2 ^ i % 2, 1) = putP D (n % 2 ^ (i + 1), i + 1) := by
  simp only [putP]
  rw [step_mod, Nat.add_mul, Nat.pow_add]
  congr 1
  rw [Nat.add_assoc, Nat.mul_assoc, Nat.mul_comm (2 ^ D.2)]
/-- Block rb has the bits one by one. -/
structure Rf (rb N L : Nat) (v : Value) (W : World) : Prop where
  blk : W.heap[rb]? = some (.cells #[v] 38 (0, 0))
  row : W.ownsRow 0 5 1 v L (u8s (blN N L))
  ne : v.ownBlock ≠ some rb
  lt : N < 2 ^ L
def RfI (rb : Nat) (D : Nat × Nat) (M : List Nat) (W : World) : Prop := ∃ v, M = wfp rb v ∧ Rf rb D.1 D.2 v W
def RfTo (rb : Nat) (D : Nat × Nat) (M : List Nat) (W W' : World) : Prop := ∃ M', RfI rb D M' W' ∧ Fr M W W' ∧ ∀ i, i ∈ M' → i ∈ M ∨ W.heap.size ≤ i
theorem RfI.lt {rb : Nat} {D : Nat × Nat} {M : List Nat} {W : World} (h : RfI rb D M W) : ∀ i, i ∈ M → i < W.heap.size := by
  obtain ⟨v, rfl, k⟩ := h
  intro i hi
  simp only [wfp, List.mem_cons, Option.mem_toList] at hi
  rcases hi with rfl | hi
  · exact lt_of k.blk
  · exact (k.row.lt i hi).2
theorem RfI.to {rb : Nat} {D : Nat × Nat} {M l : List Nat} {W W' : World} (h : RfI rb D M W) (f : Fr l W W') (hl : ∀ i, i ∈ M → i ∉ l) : RfI rb D M W' := by
  obtain ⟨v, rfl, k⟩ := h
  exact ⟨v, rfl, f.blk k.blk (hl rb (by simp [wfp])), ownsRow_to k.row f (fun g hg => hl g (by simp [wfp, hg])), k.ne, k.lt⟩
theorem RfI.to0 {rb : Nat} {D : Nat × Nat} {M : List Nat} {W W' : World} (h : RfI rb D M W) (f : Fr [] W W') : RfI rb D M W' := h.to f (by simp)
theorem RfI.refl {rb : Nat} {D : Nat × Nat} {M : List Nat} {W : World} (h : RfI rb D M W) : RfTo rb D M W W := ⟨M, h, Fr.refl _ _, fun _ hi => .inl hi⟩
theorem RfTo.trans {rb : Nat} {D D' : Nat × Nat} {M M1 : List Nat} {W W1 W2 : World} (h1 : RfI rb D M1 W1) (f1 : Fr M W W1) (n1 : ∀ i, i ∈ M1 → i ∈ M ∨ W.heap.size ≤ i) (h2 : RfTo rb D' M1 W1 W2) : RfTo rb D' M W W2 := by
  obtain ⟨M2, k1, f2, n2⟩ := h2
  refine ⟨M2, k1, f2.outL f1 n1, fun i hi => ?_⟩
  rcases n2 i hi with h | h
  · exact n1 i h
  · exact .inr (Nat.le_trans f1.size h)
theorem RfTo.after {rb : Nat} {D : Nat × Nat} {M : List Nat} {W W1 W2 : World} (f : Fr [] W W1) (h : RfTo rb D M W1 W2) : RfTo rb D M W W2 := by
  obtain ⟨M2, k1, f2, n2⟩ := h
  exact ⟨M2, k1, f2.outL f.nil fun _ hi => .inl hi, fun i hi => (n2 i hi).imp id fun h => Nat.le_trans f.size h⟩
theorem RfTo.till {rb : Nat} {D : Nat × Nat} {M : List Nat} {W W1 W2 : World} (h : RfTo rb D M W W1) (f : Fr [] W1 W2) : RfTo rb D M W W2 := by
  obtain ⟨M2, k1, f2, n2⟩ := h
  exact ⟨M2, k1.to0 f, f2.trans f.nil, n2⟩
theorem RfTo.fr {rb : Nat} {D : Nat × Nat} {M : List Nat} {V W : World} (h : RfTo rb D M V W) : Fr M V W := by
  obtain ⟨_, _, h, _⟩ := h
  exact h
theorem Rf.grown {w w4 : World} {o : Obj} {rb N L : Nat} {v : Value} (k : Rf rb N L v w) (hgrow : (w.alloc o).grownBy w4 v.ownBlock) : w4.heap[rb]? = some (.cells #[v] 38 (0, 0)) := by
  have hrb := lt_of k.blk
  rw [hgrow.block rb (by simp; omega) (fun e => k.ne e.symm)]
  exact (heap_alloc_old w o hrb).trans k.blk
/-- A bit has been put behind the others. -/
theorem Rf.push {w w4 : World} {o : Obj} {rb N L b g cap : Nat} {v : Value} {xs : List Value} (k : Rf rb N L v w) (hgrow : (w.alloc o).grownBy w4 v.ownBlock)
    (hown : w4.ownsRow 0 5 1 (.slice (some ⟨g, 0, none⟩) (L + 1) cap) (L + 1) xs) (hxs : xs = u8s (blN N L) ++ [.int .u8 (b : Int)]) (hb : b < 2) (hg : v.ownBlock = some g ∨ g = (w.alloc o).heap.size) :
    RfTo rb (putP (N, L) (b, 1)) (wfp rb v) w (w4.setCell ⟨rb, 0, none⟩ (.slice (some ⟨g, 0, none⟩) (L + 1) cap)) := by
  have hrb := lt_of k.blk
  have hsz : (w.alloc o).heap.size = w.heap.size + 1 := by simp
  have hne : (Value.slice (some ⟨g, 0, none⟩) (L + 1) cap).ownBlock ≠ some rb := by
    intro e
    have e1 : g = rb := by simpa [Value.ownBlock] using e
    subst e1
    rcases hg with hg | hg
    · exact k.ne hg
    · omega
  have f4 : Fr (wfp rb v) w w4 := by
    refine ⟨hgrow.os, hgrow.tape, hgrow.output, by have := hgrow.size; omega, fun i hi hl => ?_⟩
    rw [hgrow.block i (by omega) (fun e => hl (by simp [wfp, ← e]))]
    exact heap_alloc_old w o hi
  have hblk : w4.heap[rb]? = some (.cells #[v] 38 (0, 0)) := by
    rw [hgrow.block rb (by omega) (fun e => k.ne e.symm)]
    exact (heap_alloc_old w o hrb).trans k.blk
  refine ⟨_, ⟨_, rfl, ?_, ?_, hne, new_lt N b L 1 k.lt (by simpa using hb)⟩, f4.trans ((Fr.setCell _ _ _ _).mono (by simp [wfp])), ?_⟩
  · simpa using set_of hblk 0 (.slice (some ⟨g, 0, none⟩) (L + 1) cap)
  · have h := ownsRow_setCell_other hown (a := ⟨rb, 0, none⟩) hne (.slice (some ⟨g, 0, none⟩) (L + 1) cap)
    rw [hxs] at h
    show World.ownsRow _ 0 _ 1 _ (L + 1) (u8s (blN (N + b * 2 ^ L) (L + 1)))
    rw [blN_push N L b k.lt hb, u8s_append]
    exact h
  · intro i hi
    simp only [wfp, List.mem_cons, Option.mem_toList] at hi ⊢
    rcases hi with rfl | hi
    · exact .inl (.inl rfl)
    · have : i = g := by simpa [Value.ownBlock] using hi.symm
      subst this
      rcases hg with h | h
      · exact .inl (.inr h)
      · exact .inr (by omega)
end Go.Proofs.YtciejmlhdmjajaaGreat
namespace Go.Proofs.YtciejmlhdmjajaaGreat
open Go.RowKit
set_option linter.unusedVariables false
set_option linter.unusedSimpArgs false

theorem and_one_i (z : Nat) (h : z < 9223372036854775808) : bits .and .i64 (z : Int) 1 = ((z % 2 : Nat) : Int) := by
  show IntKind.i64.wrap ((BitVec.ofInt 64 (z : Int) &&& BitVec.ofInt 64 1).toNat : Int) = _
  rw [BitVec.toNat_and, BitVec.toNat_ofInt, show (BitVec.ofInt 64 1).toNat = 1 by decide, show ((z : Int) % (2 ^ 64 : Nat)).toNat = z by omega, Nat.and_one_is_mod, IntKind.wrap_i64]
  omega
set_option maxRecDepth 100000 in
set_option maxHeartbeats 1600000 in
theorem rput_ok (rb n size : Nat) (D : Nat × Nat) (M : List Nat) (W : World) (h : RfI rb D M W) (hz : size ≤ 56) (hn : n < 2 ^ size) (hL : D.2 ≤ 100000000) :
    Calls Tryz.prog 47 #[.pointer (some ⟨rb, 0, none⟩), .int .i64 (n : Int), .int .i64 (size : Int)] W fun e w' => e = .returned (.tuple #[]) ∧ RfTo rb (putP D (n, size)) M W w' := by
  have HI := Lib.hid h.refl
  have hzi : (size : Int) ≤ 56 := by omega
  have hni : (n : Int) < 72057594037927936 := by
    have : 2 ^ size ≤ 2 ^ 56 := Nat.pow_le_pow_right (by decide) hz
    omega
  have HN := Lib.hid hn
  clear h hn
  go_enter Tryz.func47, Tryz.ntmps47
  go_wp2_with fail
  go_loopw [6] (fun v3 wr => ∃ i : Nat, i ≤ size ∧ v3 = .int .i64 (i : Int) ∧ RfTo rb (putP D (n % 2 ^ i, i)) M W wr) (fun v3 _ => size - (intOf v3).toNat)
  case atStart => exact ⟨0, by omega, rfl, by simpa [Nat.mod_one, putP] using HI.out⟩
  case round =>
    obtain ⟨i, hi, rfl, hT⟩ := hrel
    by_cases hlt : i < size
    · have hii : (i : Int) < (size : Int) := by omega
      obtain ⟨⟨N, L⟩, hNL⟩ : ∃ E, putP D (n % 2 ^ i, i) = E := ⟨_, rfl⟩
      rw [hNL] at hT
      have hLi : L = D.2 + i := by have := congrArg Prod.snd hNL; simpa [putP] using this.symm
      obtain ⟨M1, ⟨v, rfl, k⟩, f1, n1⟩ := hT
      have hrb := lt_of k.blk
      have c0 := cell_of k.blk 0
      simp at c0
      obtain ⟨z, hz'⟩ : ∃ z, n / 2 ^ i = z := ⟨_, rfl⟩
      obtain ⟨t, ht⟩ : ∃ t, z % 2 = t := ⟨_, rfl⟩
      have ht2 : t < 2 := by omega
      have hdv : (n : Int) / 2 ^ i = (z : Int) := by
        have hc : ((2:Int) ^ i) = ((2 ^ i : Nat) : Int) := by simp
        rw [hc, ← Int.natCast_ediv, hz']
      have hzt : (z : Int) % 2 = (t : Int) := by omega
      have hand : bits .and .i64 (z : Int) 1 = (t : Int) := by rw [and_one_i z (by have := Nat.div_le_self n (2 ^ i); omega), ht]
      have hzi : (z : Int) ≤ 72057594037927936 := by have := Nat.div_le_self n (2 ^ i); omega
      have hcb := cell_of (w := wr.alloc (.cells #[.int .u8 (t : Int)] 5)) ((heap_alloc_old wr (.cells #[.int .u8 (t : Int)] 5) hrb).trans k.blk) 0
      have hc1 : L + 1 ≤ maxLen := by unfold maxLen; omega
      have hc2 : (L + 1) * 1 ≤ 140737488355328 := by omega
      have hone : ∀ u ∈ [Value.int .u8 (t : Int)], u.oneCell' = true := by intro u hu; simp at hu; subst hu; rfl
      have hnew := cell_one_new wr (.int .u8 (t : Int)) 5
      obtain ⟨i0, hi', hz0, hz1, hz2⟩ := u8info
      have HI0 := Lib.hid hi'
      have HIz := Lib.hid hz0
      have HIs := Lib.hid hz1
      have HIb := Lib.hid hz2
      have HROW := Lib.hid k.row
      have HNEW := Lib.hid hnew
      have HONE := Lib.hid hone
      have HX := Lib.hid k
      have HF := Lib.hid (And.intro f1 (And.intro n1 (And.intro hNL hLi)))
      have HZ := Lib.hid (And.intro hz' ht)
      clear hnew hone hi' hz0 hz1 hz2 hz' ht hcb k f1 n1 hNL hLi
      simp only at HROW
      go_wp2_with (at_builtin; go_must (refine wpList_append_lies _ rfl (.tmp 16) (.tmp 23) 36 rfl 0 5 i0 (.int .u8 0) 1 1 Tryz.underlying36 HI0.out HIz.out HIs.out HIb.out rfl (by decide) v L _ rfl (by exact HROW.out.alloc _) ⟨wr.heap.size, 0, none⟩ 1 1 [.int .u8 (t : Int)] rfl rfl (by exact HNEW.out) HONE.out (by decide) hc1 hc2 (Nat.zero_le _) _ rfl ?_); intro g cap w4 hown4 hgrow4 hg4 hlt4; have k0 : w4.cell? ⟨rb, 0, none⟩ = some v := cell_of (HX.out.grown hgrow4) 0; have e0 : w4.frozen? ⟨rb, 0, none⟩ = false := free_of (HX.out.grown hgrow4) 0)
      obtain ⟨f1, n1, hNL, hLi⟩ := HF.out
      have hp := HX.out.push hgrow4 hown4 rfl ht2 (by simpa using hg4)
      refine ⟨⟨i + 1, by omega, by go_num, ?_⟩, by simp [intOf]; omega⟩
      rw [← step_put, HZ.out.1, HZ.out.2, hNL]
      exact RfTo.trans (D := (N, L)) ⟨v, rfl, HX.out⟩ f1 n1 hp
    · have hie : i = size := by omega
      subst hie
      rw [Nat.mod_eq_of_lt HN.out] at hT
      have HT := Lib.hid hT
      clear hT
      go_wp2_with fail
      refine bodyPost_end (v := .tuple #[]) (by simp [results, Tryz.results47, go_sem]) rfl ?_
      exact ⟨rfl, HT.out⟩
theorem and_one_u (z : Nat) (h : z < 4294967296) : bits .and .u32 (z : Int) 1 = ((z % 2 : Nat) : Int) := by
  show IntKind.u32.wrap ((BitVec.ofInt 32 (z : Int) &&& BitVec.ofInt 32 1).toNat : Int) = _
  rw [BitVec.toNat_and, BitVec.toNat_ofInt, show (BitVec.ofInt 32 1).toNat = 1 by decide, show ((z : Int) % (2 ^ 32 : Nat)).toNat = z by omega, Nat.and_one_is_mod, IntKind.wrap_u32]
  omega
theorem turnN_at (n size j : Nat) (h : j < size) : turnN n size / 2 ^ j % 2 = n / 2 ^ (size - 1 - j) % 2 := by
  have h1 := turnN_bit n size j
  rw [Nat.testBit_eq_decide_div_mod_eq, Nat.testBit_eq_decide_div_mod_eq] at h1
  simp only [h, decide_true, Bool.true_and] at h1
  have h2 := decide_eq_decide.1 h1
  omega
set_option maxRecDepth 100000 in
set_option maxHeartbeats 1600000 in
theorem rcode_ok (rb n size : Nat) (D : Nat × Nat) (M : List Nat) (W : World) (h : RfI rb D M W) (hz : size ≤ 32) (hn : n < 2 ^ size) (hL : D.2 ≤ 100000000) :
    Calls Tryz.prog 50 #[.pointer (some ⟨rb, 0, none⟩), .agg #[.int .u32 (n : Int), .int .u8 (size : Int)]] W fun e w' => e = .returned (.tuple #[]) ∧ RfTo rb (putP D (turnN n size, size)) M W w' := by
  have HI := Lib.hid h.refl
  have hzi : (size : Int) ≤ 32 := by omega
  have hnn : n < 4294967296 := by
    have : 2 ^ size ≤ 2 ^ 32 := Nat.pow_le_pow_right (by decide) hz
    omega
  have hni : (n : Int) < 4294967296 := by omega
  obtain ⟨T, hT⟩ : ∃ T, turnN n size = T := ⟨_, rfl⟩
  have HT := Lib.hid (And.intro (hT ▸ turnN_lt n size : T < 2 ^ size) (fun j hj => hT ▸ turnN_at n size j hj : ∀ j, j < size → T / 2 ^ j % 2 = n / 2 ^ (size - 1 - j) % 2))
  have HM := Lib.hid h.lt
  rw [hT]
  have h9 := h
  clear h hn hT
  obtain ⟨V, hV⟩ : ∃ V, W.alloc (.cells #[.int .u32 (n : Int), .int .u8 (size : Int)] 99) = V := ⟨_, rfl⟩
  have fV : Fr [] W V := by rw [← hV]; exact Fr.alloc _ _ _
  have xV : V.heap[W.heap.size]? = some (.cells #[.int .u32 (n : Int), .int .u8 (size : Int)] 99 (0, 0)) := by rw [← hV]; exact alloc_last _ _
  have HV := Lib.hid (And.intro fV (And.intro xV hV))
  have HI2 := Lib.hid (h9.to0 fV).refl
  clear fV xV hV h9
  go_enter Tryz.func50, Tryz.ntmps50
  go_wp2_with fail
  rw [HV.out.2.2]
  go_loopw [4] (fun v4 wr => ∃ j : Nat, j ≤ size ∧ v4 = .int .i64 ((size : Int) - 1 - (j : Int)) ∧ RfTo rb (putP D (T % 2 ^ j, j)) M V wr) (fun v4 _ => (intOf v4 + 1).toNat)
  case atStart => exact ⟨0, by omega, by simp, by simpa [Nat.mod_one, putP] using HI2.out⟩
  case round =>
    obtain ⟨j, hj, rfl, hR⟩ := hrel
    have hX := hR.fr.blk HV.out.2.1 (fun hi => Nat.lt_irrefl _ (HM.out _ hi))
    have b0 := cell_of hX 0
    simp at b0
    by_cases hlt : j < size
    · obtain ⟨i, hi⟩ : ∃ i, size - 1 - j = i := ⟨_, rfl⟩
      have hii : (size : Int) - 1 - (j : Int) = (i : Int) := by omega
      have hiz : (i : Int) < 32 := by omega
      obtain ⟨⟨N, L⟩, hNL⟩ : ∃ E, putP D (T % 2 ^ j, j) = E := ⟨_, rfl⟩
      rw [hNL] at hR
      have hLi : L = D.2 + j := by have := congrArg Prod.snd hNL; simpa [putP] using this.symm
      obtain ⟨M1, ⟨v, rfl, k⟩, f1, n1⟩ := hR
      have hrb := lt_of k.blk
      have c0 := cell_of k.blk 0
      simp at c0
      obtain ⟨z, hz'⟩ : ∃ z, n / 2 ^ i = z := ⟨_, rfl⟩
      obtain ⟨t, ht⟩ : ∃ t, z % 2 = t := ⟨_, rfl⟩
      have ht2 : t < 2 := by omega
      have hdv : (n : Int) / 2 ^ i = (z : Int) := by
        have hc : ((2:Int) ^ i) = ((2 ^ i : Nat) : Int) := by simp
        rw [hc, ← Int.natCast_ediv, hz']
      have hzt : (z : Int) % 2 = (t : Int) := by omega
      have hTt := HT.out.2 j hlt
      rw [hi, hz', ht] at hTt
      have hzi : (z : Int) < 4294967296 := by have := Nat.div_le_self n (2 ^ i); omega
      have hug : (IntKind.u8.wrap (bits .and .u32 ((n : Int) / 2 ^ min (IntKind.u64.wrap (i : Int)).toNat 32) 1)) = (t : Int) := by
        rw [show (IntKind.u64.wrap (i : Int)).toNat = i by rw [IntKind.wrap_u64]; omega, show min i 32 = i by omega, hdv, and_one_u z (by omega), ht, IntKind.wrap_u8]
        omega
      have hc1 : L + 1 ≤ maxLen := by unfold maxLen; omega
      have hc2 : (L + 1) * 1 ≤ 140737488355328 := by omega
      have hone : ∀ u ∈ [Value.int .u8 (IntKind.u8.wrap (bits .and .u32 ((n : Int) / 2 ^ min (IntKind.u64.wrap (i : Int)).toNat 32) 1))], u.oneCell' = true := by intro u hu; simp at hu; subst hu; rfl
      have hnew := cell_one_new wr (.int .u8 (IntKind.u8.wrap (bits .and .u32 ((n : Int) / 2 ^ min (IntKind.u64.wrap (i : Int)).toNat 32) 1))) 5
      obtain ⟨i0, hi', hz0, hz1, hz2⟩ := u8info
      have HI0 := Lib.hid hi'
      have HIz := Lib.hid hz0
      have HIs := Lib.hid hz1
      have HIb := Lib.hid hz2
      have HROW := Lib.hid k.row
      have HNEW := Lib.hid hnew
      have HONE := Lib.hid hone
      have HX := Lib.hid k
      have HF := Lib.hid (And.intro f1 (And.intro n1 (And.intro hNL (And.intro hLi (And.intro hTt hug)))))
      clear hnew hone hi' hz0 hz1 hz2 hz' ht k f1 n1 hNL hLi hTt hi hX hug
      simp only at HROW
      go_wp2_with fail
      go_region_law ((refine step_append_lies _ rfl (.tmp 17) (.tmp 25) 36 rfl 0 5 i0 (.int .u8 0) 1 1 Tryz.underlying36 HI0.out HIz.out HIs.out HIb.out rfl (by decide) v L _ rfl (by exact HROW.out.alloc _) ⟨wr.heap.size, 0, none⟩ 1 1 [.int .u8 (IntKind.u8.wrap (bits .and .u32 ((n : Int) / 2 ^ min (IntKind.u64.wrap (i : Int)).toNat 32) 1))] rfl rfl (by exact HNEW.out) HONE.out (by decide) hc1 hc2 (Nat.zero_le _) _ rfl ?_); intro g cap w4 hown4 hgrow4 hg4 hlt4; have hgrow5 : (wr.alloc (.cells #[.int .u8 (IntKind.u8.wrap (bits .and .u32 ((n : Int) / 2 ^ min (IntKind.u64.wrap (i : Int)).toNat 32) 1))] 5)).grownBy w4 v.ownBlock := ⟨hgrow4.os, hgrow4.tape, hgrow4.output, hgrow4.size, hgrow4.block⟩; have k0 : w4.cell? ⟨rb, 0, none⟩ = some v := cell_of (HX.out.grown hgrow5) 0; have e0 : w4.frozen? ⟨rb, 0, none⟩ = false := free_of (HX.out.grown hgrow5) 0)
      all_goals
        go_wp2_with (fail_if_success go_outline)
        obtain ⟨f1, n1, hNL, hLi, hTt, hug⟩ := HF.out
        rw [hug] at hown4 hgrow5
        have hp := HX.out.push hgrow5 hown4 rfl ht2 (by simpa using hg4)
        refine ⟨⟨j + 1, by omega, by rw [show (size : Int) - 1 - ((j + 1 : Nat) : Int) = (i : Int) - 1 by omega], ?_⟩, by simp [intOf]; omega⟩
        rw [← step_put, hTt, hNL]
        exact RfTo.trans (D := (N, L)) ⟨v, rfl, HX.out⟩ f1 n1 hp
    · have hje : j = size := by omega
      subst hje
      rw [Nat.mod_eq_of_lt HT.out.1] at hR
      have HR := Lib.hid (hR.after HV.out.1)
      have hii : (j : Int) - 1 - (j : Int) = -1 := by omega
      clear hR hX
      go_wp2_with fail
      refine bodyPost_end (v := .tuple #[]) (by simp [results, Tryz.results50, go_sem]) rfl ?_
      exact ⟨rfl, HR.out⟩
theorem rcode_to {rb n size : Nat} {D : Nat × Nat} {M : List Nat} {V W : World} (h : RfTo rb D M V W) (hz : size ≤ 32) (hn : n < 2 ^ size) (hL : D.2 ≤ 100000000) :
    Calls Tryz.prog 50 #[.pointer (some ⟨rb, 0, none⟩), .agg #[.int .u32 (n : Int), .int .u8 (size : Int)]] W fun e w' => e = .returned (.tuple #[]) ∧ RfTo rb (putP D (turnN n size, size)) M V w' := by
  obtain ⟨M1, k1, f1, n1⟩ := h
  exact (rcode_ok rb n size D M1 W k1 hz hn hL).mono fun e w' ⟨h1, h2⟩ => ⟨h1, RfTo.trans k1 f1 n1 h2⟩
theorem rput_to {rb n size : Nat} {x y : Int} {D : Nat × Nat} {M : List Nat} {V W : World} (h : RfTo rb D M V W) (hz : size ≤ 56) (hn : n < 2 ^ size) (hL : D.2 ≤ 100000000) (hx : x = (n : Int)) (hy : y = (size : Int)) :
    Calls Tryz.prog 47 #[.pointer (some ⟨rb, 0, none⟩), .int .i64 x, .int .i64 y] W fun e w' => e = .returned (.tuple #[]) ∧ RfTo rb (putP D (n, size)) M V w' := by
  subst hx; subst hy
  obtain ⟨M1, k1, f1, n1⟩ := h
  exact (rput_ok rb n size D M1 W k1 hz hn hL).mono fun e w' ⟨h1, h2⟩ => ⟨h1, RfTo.trans k1 f1 n1 h2⟩
end Go.Proofs.YtciejmlhdmjajaaGreat

