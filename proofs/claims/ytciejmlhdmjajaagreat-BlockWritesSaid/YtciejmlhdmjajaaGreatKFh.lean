/- block.out: it writes till something has no room. -/
import Derived.Test.YtciejmlhdmjajaaGreatKEi
import Derived.Test.YtciejmlhdmjajaaGreatKBv
namespace Go.Proofs.YtciejmlhdmjajaaGreat
open Go.RowKit
set_option linter.unusedVariables false
set_option linter.unusedSimpArgs false

/-- What is to be written so far, D, has room. -/
def roomy (D : Nat × Nat) (most : Nat) : Bool := decide ((D.2 + 7) / 8 ≤ most)
def outO (b : Nat) (e : Int) : Obj := .cells #[.pointer (some ⟨b, 0, none⟩), .int .i64 e] 62 (0, 0)
/-- Block ob writes by b; D is what it would have written, were there room; M: the blocks that it turns. -/
def OutI (ob b most : Nat) (D : Nat × Nat) (M : List Nat) (W : World) : Prop :=
  ∃ v N L, M = ob :: wfp b v ∧ Wr W b v N L most ∧ ob ∉ wfp b v ∧ (roomy D most = true ∧ W.heap[ob]? = some (outO b 0) ∧ N = D.1 ∧ L = D.2 ∨ roomy D most = false ∧ W.heap[ob]? = some (outO b 4))
def OutTo (ob b most : Nat) (D : Nat × Nat) (M : List Nat) (W W' : World) : Prop := ∃ M', OutI ob b most D M' W' ∧ Fr M W W' ∧ ∀ i, i ∈ M' → i ∈ M ∨ W.heap.size ≤ i
theorem OutI.lt {ob b most : Nat} {D : Nat × Nat} {M : List Nat} {W : World} (h : OutI ob b most D M W) : ∀ i, i ∈ M → i < W.heap.size := by
  obtain ⟨v, N, L, rfl, hw, hn, hc⟩ := h
  intro i hi
  rcases List.mem_cons.1 hi with rfl | hi
  · rcases hc with ⟨_, h, _⟩ | ⟨_, h⟩ <;> exact lt_of h
  · exact hw.st.lt i hi
/-- Blocks of others may turn. -/
theorem OutI.to {ob b most : Nat} {D : Nat × Nat} {M l : List Nat} {W W' : World} (h : OutI ob b most D M W) (f : Fr l W W') (hl : ∀ i, i ∈ M → i ∉ l) : OutI ob b most D M W' := by
  obtain ⟨v, N, L, rfl, hw, hn, hc⟩ := h
  refine ⟨v, N, L, rfl, hw.to f fun i hi => hl i (by simp [hi]), hn, ?_⟩
  have ho := hl ob (by simp)
  rcases hc with ⟨h1, h2, h3⟩ | ⟨h1, h2⟩
  · exact .inl ⟨h1, f.blk h2 ho, h3⟩
  · exact .inr ⟨h1, f.blk h2 ho⟩
theorem OutI.to0 {ob b most : Nat} {D : Nat × Nat} {M : List Nat} {W W' : World} (h : OutI ob b most D M W) (f : Fr [] W W') : OutI ob b most D M W' := h.to f (by simp)
theorem OutI.refl {ob b most : Nat} {D : Nat × Nat} {M : List Nat} {W : World} (h : OutI ob b most D M W) : OutTo ob b most D M W W := ⟨M, h, Fr.refl _ _, fun _ hi => .inl hi⟩
theorem OutTo.trans {ob b most : Nat} {D D' : Nat × Nat} {M M1 : List Nat} {W W1 W2 : World} (h1 : OutI ob b most D M1 W1) (f1 : Fr M W W1) (n1 : ∀ i, i ∈ M1 → i ∈ M ∨ W.heap.size ≤ i) (h2 : OutTo ob b most D' M1 W1 W2) : OutTo ob b most D' M W W2 := by
  obtain ⟨M2, k1, f2, n2⟩ := h2
  refine ⟨M2, k1, f2.outL f1 n1, fun i hi => ?_⟩
  rcases n2 i hi with h | h
  · exact n1 i h
  · exact .inr (Nat.le_trans f1.size h)
theorem OutI.stored {ob b most : Nat} {v v' : Value} {N L : Nat} {D : Nat × Nat} {W W1 : World} {e0 e : Int} (hlt : ob < W.heap.size) (hw : Wr W1 b v' N L most) (hnew : NewRow W v v') (hf : Fr (wfp b v) W W1) (hob : ob ∉ wfp b v) (hblk : W.heap[ob]? = some (outO b e0))
    (h : roomy D most = true ∧ e = 0 ∧ N = D.1 ∧ L = D.2 ∨ roomy D most = false ∧ e = 4) : OutTo ob b most D (ob :: wfp b v) W (W1.setCell ⟨ob, 1, none⟩ (.int .i64 e)) := by
  have hb1 := hf.blk hblk hob
  have hob' : ob ∉ wfp b v' := by
    intro hi
    simp only [wfp, List.mem_cons, Option.mem_toList] at hi hob
    rcases hi with rfl | hi
    · exact hob (.inl rfl)
    · rcases hnew with h1 | ⟨g, h1, h2⟩
      · rw [h1] at hi; exact hob (.inr hi)
      · rw [h1] at hi; cases hi; omega
  have fs := Fr.setCell W1 ob 1 (.int .i64 e)
  have s1 := set_of hb1 1 (.int .i64 e)
  have e1 : ((#[.pointer (some ⟨b, 0, none⟩), .int .i64 e0] : Array Value).setIfInBounds 1 (.int .i64 e)) = #[.pointer (some ⟨b, 0, none⟩), .int .i64 e] := by simp
  rw [e1] at s1
  refine ⟨ob :: wfp b v', ⟨v', N, L, rfl, hw.to fs fun i hi hm => by simp at hm; subst hm; exact hob' hi, hob', ?_⟩, (hf.mono fun i hi => List.mem_cons_of_mem _ hi).trans (fs.mono (by simp)), fun i hi => ?_⟩
  · rcases h with ⟨h1, rfl, h2⟩ | ⟨h1, rfl⟩
    · exact .inl ⟨h1, s1, h2⟩
    · exact .inr ⟨h1, s1⟩
  · rcases List.mem_cons.1 hi with rfl | hi
    · exact .inl (by simp)
    · simp only [wfp, List.mem_cons, Option.mem_toList] at hi ⊢
      rcases hi with rfl | hi
      · exact .inl (by simp)
      · rcases hnew with h1 | ⟨g, h1, h2⟩
        · rw [h1] at hi; exact .inl (.inr (.inr hi))
        · rw [h1] at hi; cases hi; exact .inr h2
set_option maxHeartbeats 1600000 in
theorem obits_ok (ob b most n size : Nat) (D : Nat × Nat) (M : List Nat) (W : World) (h : OutI ob b most D M W) (hm : most ≤ 1000000) (hz : size ≤ 56) (hn : n < 2 ^ size) :
    Calls Tryz.prog 43 #[.pointer (some ⟨ob, 0, none⟩), .int .u64 n, .int .i64 size] W fun e w' => e = .returned (.tuple #[]) ∧ OutTo ob b most (putP D (n, size)) M W w' := by
  have HI := Lib.hid h
  obtain ⟨v, N, L, rfl, hw, hob, hc⟩ := h
  have hrm := hw.rm
  rcases hc with ⟨hfit, hblk, rfl, rfl⟩ | ⟨hfit, hblk⟩
  · have c0 := cell_of hblk 0
    have c1 := cell_of hblk 1
    simp at c0 c1
    have hlt := lt_of hblk
    by_cases hr : roomB D.2 size most = true
    · have HC := Lib.hid (wbits_ok b v D.1 D.2 most n size W hw (by omega) (by omega) hz hn hr)
      have HX := Lib.hid (And.intro hw (And.intro hob (And.intro hfit (And.intro hblk (And.intro hr hlt)))))
      clear hw hob hfit hblk hr hrm hn hlt
      go_enter Tryz.func43, Tryz.ntmps43
      go_wp2_with fail
      refine HC.out.mono ?_
      rintro e w1 ⟨rfl, v', hw', hnew, hf⟩
      have hb1 := hf.blk HX.out.2.2.2.1 HX.out.2.1
      have d0 := cell_of hb1 0
      have d1 := cell_of hb1 1
      have z0 := free_of hb1 0
      have z1 := free_of hb1 1
      simp at d0 d1
      have HY := Lib.hid (OutI.stored (D := putP D (n, size)) (e := 0) HX.out.2.2.2.2.2 hw' hnew hf HX.out.2.1 HX.out.2.2.2.1 (.inl ⟨HX.out.2.2.2.2.1, rfl, rfl, rfl⟩))
      clear hw' hnew hf hb1 c0 c1
      go_wp2_with fail
      refine bodyPost_end (v := .tuple #[]) (by simp [results, Tryz.results43, go_sem]) rfl ?_
      exact ⟨rfl, HY.out⟩
    · have he : wbE D.2 most n size = 4 := by
        unfold wbE
        rw [Int.toNat_natCast, if_neg (by rintro (h | h | h) <;> omega), if_neg hr]
      have HC := Lib.hid (wbits_err b v D.1 D.2 most n size W hw (by omega) (by omega) (Nat.lt_of_lt_of_le hn (Nat.pow_le_pow_right (by decide) (by omega))) (by rw [he]; decide))
      rw [he] at HC
      have HX := Lib.hid (And.intro hw (And.intro hob (And.intro hfit (And.intro hblk (And.intro hr hlt)))))
      clear hw hob hfit hblk hr hrm hn hlt he
      go_enter Tryz.func43, Tryz.ntmps43
      go_wp2_with fail
      refine HC.out.mono ?_
      rintro e w1 ⟨rfl, hf⟩
      have hb1 := hf.blk HX.out.2.2.2.1 (by simp)
      have d0 := cell_of hb1 0
      have d1 := cell_of hb1 1
      have z0 := free_of hb1 0
      have z1 := free_of hb1 1
      simp at d0 d1
      have HY := Lib.hid (OutI.stored (D := putP D (n, size)) (e := 4) (v := v) HX.out.2.2.2.2.2 (HX.out.1.to hf (by simp)) (NewRow.refl _ _) hf.nil HX.out.2.1 HX.out.2.2.2.1 (.inr ⟨by have := HX.out.2.2.2.2.1; unfold roomB at this; unfold roomy putP; simpa using this, rfl⟩))
      clear hf hb1 c0 c1
      go_wp2_with fail
      refine bodyPost_end (v := .tuple #[]) (by simp [results, Tryz.results43, go_sem]) rfl ?_
      exact ⟨rfl, HY.out⟩
  · have c0 := cell_of hblk 0
    have c1 := cell_of hblk 1
    simp at c0 c1
    have HX := Lib.hid (And.intro hw (And.intro hob (And.intro hfit hblk)))
    clear hw hob hfit hblk hrm hn
    go_enter Tryz.func43, Tryz.ntmps43
    go_wp2_with fail
    refine bodyPost_end (v := .tuple #[]) (by simp [results, Tryz.results43, go_sem]) rfl ?_
    obtain ⟨hw, hob, hfit, hblk⟩ := HX.out
    refine ⟨rfl, OutI.refl ⟨v, N, L, rfl, hw, hob, .inr ⟨?_, hblk⟩⟩⟩
    unfold roomy putP at *
    simp only [decide_eq_false_iff_not] at hfit ⊢
    omega
theorem OutTo.after {ob b most : Nat} {D : Nat × Nat} {M : List Nat} {W W1 W2 : World} (f : Fr [] W W1) (h : OutTo ob b most D M W1 W2) : OutTo ob b most D M W W2 := by
  obtain ⟨M2, k1, f2, n2⟩ := h
  exact ⟨M2, k1, f2.outL f.nil fun _ hi => .inl hi, fun i hi => (n2 i hi).imp id fun h => Nat.le_trans f.size h⟩
theorem OutTo.till {ob b most : Nat} {D : Nat × Nat} {M : List Nat} {W W1 W2 : World} (h : OutTo ob b most D M W W1) (f : Fr [] W1 W2) : OutTo ob b most D M W W2 := by
  obtain ⟨M2, k1, f2, n2⟩ := h
  exact ⟨M2, k1.to0 f, f2.trans f.nil, n2⟩
/-- One more step. -/
theorem OutTo.more {ob b most : Nat} {D D' : Nat × Nat} {M : List Nat} {W W1 W2 : World} (h : OutTo ob b most D M W W1) (h2 : ∀ M1, OutI ob b most D M1 W1 → OutTo ob b most D' M1 W1 W2) : OutTo ob b most D' M W W2 := by
  obtain ⟨M1, k1, f1, n1⟩ := h
  exact OutTo.trans k1 f1 n1 (h2 M1 k1)
set_option maxHeartbeats 1600000 in
theorem ocode_ok (ob b most n size : Nat) (D : Nat × Nat) (M : List Nat) (W : World) (h : OutI ob b most D M W) (hm : most ≤ 1000000) (hz : size ≤ 32) (hn : n < 2 ^ size) :
    Calls Tryz.prog 46 #[.pointer (some ⟨ob, 0, none⟩), .agg #[.int .u32 (n : Int), .int .u8 (size : Int)]] W fun e w' => e = .returned (.tuple #[]) ∧ OutTo ob b most (putP D (n, size)) M W w' := by
  have hn32 : n < 4294967296 := by
    have h1 : 2 ^ size ≤ 2 ^ 32 := Nat.pow_le_pow_right (by decide) hz
    omega
  have hni : (n : Int) < 4294967296 := by omega
  have hsi : (size : Int) ≤ 32 := by omega
  have HC := Lib.hid (obits_ok ob b most n size D M (W.alloc (.cells #[.int .u32 (n : Int), .int .u8 (size : Int)] 99)) (h.to0 (Fr.alloc _ _ _)) hm (by omega) hn)
  clear h hz hn hm hn32
  go_enter Tryz.func46, Tryz.ntmps46
  go_wp2_with fail
  refine HC.out.mono ?_
  rintro e w1 ⟨rfl, ho⟩
  have HO := Lib.hid (ho.after (Fr.alloc _ _ _))
  clear ho
  go_wp2_with fail
  refine bodyPost_end (v := .tuple #[]) (by simp [results, Tryz.results46, go_sem]) rfl ?_
  exact ⟨rfl, HO.out⟩
set_option maxHeartbeats 1600000 in
theorem obegin_ok (ob b most k : Nat) (last : Bool) (D : Nat × Nat) (M : List Nat) (W : World) (h : OutI ob b most D M W) (hm : most ≤ 1000000) (hk : k ≤ 2) :
    Calls Tryz.prog 26 #[.pointer (some ⟨ob, 0, none⟩), .int .u8 (k : Int), .bool last] W fun e w' => e = .returned (.tuple #[]) ∧ OutTo ob b most (putP D (2 * k + last.toNat, 3)) M W w' := by
  have HC := Lib.hid (obits_ok ob b most (2 * k + last.toNat) 3 D M W h hm (by omega) (by cases last <;> simp <;> omega))
  clear h hm
  rcases (show k = 0 ∨ k = 1 ∨ k = 2 by omega) with rfl | rfl | rfl
  all_goals cases last
  all_goals
    go_enter Tryz.func26, Tryz.ntmps26
    go_wp2_with fail
    refine HC.out.mono ?_
    rintro e w1 ⟨rfl, ho⟩
    have HO := Lib.hid ho
    clear ho
    go_wp2_with fail
    refine bodyPost_end (v := .tuple #[]) (by simp [results, Tryz.results26, go_sem]) rfl ?_
    exact ⟨rfl, HO.out⟩
end Go.Proofs.YtciejmlhdmjajaaGreat

