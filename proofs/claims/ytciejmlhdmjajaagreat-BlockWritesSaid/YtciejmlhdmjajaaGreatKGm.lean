/- (For the great seat.) The reference's bits as a text. What stored blocks hold: plain. (For the great seat.) The reference's head and stored blocks. platenref13: the fixed codes. (For the great seat.) The reference's Write. block.out: the head of codes. The document's examples of layer 13. BlockWhere's walk. block.Write. Blocks that may not be: Size and Write. (For the great seat.) The reference's May and Size. BlockCodes: the fixed codes, the best ones, and the order. BlockRoom: a block which has no room is refused, and one that has just so much is written. (For the great seat.) BlockWrites: how many bits a block takes, and which, behind any others, or why it may not be. -/
import Derived.Test.YtciejmlhdmjajaaGreatKRg
import Derived.Test.YtciejmlhdmjajaaGreatKPi
import Derived.Test.YtciejmlhdmjajaaGreatKEm
import Derived.Test.YtciejmlhdmjajaaGreatKGb
import Derived.Test.YtciejmlhdmjajaaGreatKBv
import Derived.Test.YtciejmlhdmjajaaGreatKFi
import Derived.Test.YtciejmlhdmjajaaGreatKFk
import Derived.Test.YtciejmlhdmjajaaGreatKEh
import Derived.Test.YtciejmlhdmjajaaGreatKEw
import Derived.Test.YtciejmlhdmjajaaGreatKEv
import Derived.Test.YtciejmlhdmjajaaGreatKFe
import Derived.Test.YtciejmlhdmjajaaGreatKEg
import Derived.Test.YtciejmlhdmjajaaGreatKGi
import Derived.Laws.BitsAllLaws
namespace Go.Proofs.YtciejmlhdmjajaaGreat
open Go.RowKit
set_option linter.unusedVariables false
set_option linter.unusedSimpArgs false

theorem leb_setR (X q k : Nat) (hX : X < 2 ^ k) (hk : k < 8 * q) : (lebL X q)[k / 8]? = some (UInt8.ofNat (X / 2 ^ (8 * (k / 8)))) ∧ X / 2 ^ (8 * (k / 8)) + 2 ^ (k % 8) < 256 ∧
    (lebL X q).set (k / 8) (UInt8.ofNat (X / 2 ^ (8 * (k / 8)) + 2 ^ (k % 8))) = lebL (X + 2 ^ k) q := by
  obtain ⟨j, hj⟩ : ∃ j, k / 8 = j := ⟨_, rfl⟩
  obtain ⟨m, hm⟩ : ∃ m, k % 8 = m := ⟨_, rfl⟩
  have hkj : k = 8 * j + m := by omega
  have e0 : (2:Nat) ^ k = 2 ^ (8 * j) * 2 ^ m := by rw [hkj, Nat.pow_add]
  have hm7 : (2:Nat) ^ m ≤ 2 ^ 7 := Nat.pow_le_pow_right (by decide) (by omega)
  have hy : X / 2 ^ (8 * j) < 2 ^ m := by rw [Nat.div_lt_iff_lt_mul (Nat.pow_pos (by decide)), Nat.mul_comm, ← e0]; exact hX
  obtain ⟨r, hr⟩ : ∃ r, q = j + (r + 1) := ⟨q - j - 1, by omega⟩
  have e1 : lebL (X + 2 ^ k) j = lebL X j := by
    have := lebL_same X (2 ^ m) (8 * j)
    rw [show 8 * j / 8 = j by omega, Nat.mul_comm, ← e0] at this
    exact this
  have e2 : (X + 2 ^ k) / 256 ^ j = X / 2 ^ (8 * j) + 2 ^ m := by
    rw [pow256, e0, Nat.add_mul_div_left _ _ (Nat.pow_pos (by decide))]
  rw [hj, hm]
  refine ⟨?_, by omega, ?_⟩
  · rw [hr, lebL_add, List.getElem?_append_right (by rw [length_lebL]; exact Nat.le_refl _), length_lebL, Nat.sub_self, pow256]
    rfl
  · rw [hr, lebL_add X j (r + 1), lebL_add (X + 2 ^ k) j (r + 1), e1, e2, List.set_append_right _ _ (by rw [length_lebL]; exact Nat.le_refl _), length_lebL, Nat.sub_self, pow256]
    simp only [lebL, List.set_cons_zero]
    rw [Nat.div_eq_of_lt (show X / 2 ^ (8 * j) < 256 by omega), Nat.div_eq_of_lt (show X / 2 ^ (8 * j) + 2 ^ m < 256 by omega)]
theorem lebL_zeroR (q : Nat) : lebL 0 q = List.replicate q 0 := by
  induction q with
  | zero => rfl
  | succ q ih => simp [lebL, ih, List.replicate_succ]
theorem bit_modR (N k : Nat) : N % 2 ^ (k + 1) = N % 2 ^ k + 2 ^ k * (N / 2 ^ k % 2) := by rw [Nat.pow_succ, Nat.mod_mul]
theorem run_convert_cellsR {P : Program} (w : World) (src dst e t : TypeId) (hs : P.underlying src = some (.slice e)) (he : P.underlying e = some (.int .u8)) (hd : P.underlying dst = some .string)
    (g k cap : Nat) (l : List UInt8) (hg : w.heap[g]? = some (.cells (Lib.byteCells l).toArray t (0, 0))) (hk : k ≤ l.length) : (convert src dst (.slice (some ⟨g, 0, none⟩) k cap)).run P w = .ok (.string ⟨(l.take k).toArray⟩) w := by
  rw [run_convert_bytes_arg w src e hs he g 0 k cap ((l.take k).map fun b => (b.toNat : Int)) (by simp; omega) (fun i hi => ?_) dst hd]
  · congr 2
    have e : List.map ((fun n : Int => UInt8.ofNat n.toNat) ∘ fun b : UInt8 => (b.toNat : Int)) (l.take k) = l.take k := by
      conv => rhs; rw [← List.map_id (l.take k)]
      apply List.map_congr_left
      intro b _
      simp
    simp only [strOfNums, List.map_map, e]
  · rw [Nat.zero_add, cell_of hg]
    have hi' : i < l.length := by omega
    simp [Lib.byteCells, List.getD, List.getElem?_take, hi, List.getElem?_eq_getElem hi']
theorem byteCells_setR (l : List UInt8) (j : Nat) (b : UInt8) : (Lib.byteCells l).toArray.setIfInBounds j (.int .u8 (b.toNat : Int)) = (Lib.byteCells (l.set j b)).toArray := by
  apply Array.ext'
  simp [Lib.byteCells, List.map_set]
theorem Rf.form {rb N L : Nat} {v : Value} {W : World} (k : Rf rb N L v W) : ∃ ao cap, v = .slice ao L cap := row_form k.row
theorem Rf.bit {rb N L : Nat} {ao : Option Addr} {cap : Nat} {W : World} (k : Rf rb N L (.slice ao L cap) W) (i : Nat) (hi : i < L) : ∃ g, ao = some ⟨g, 0, none⟩ ∧ W.cell? ⟨g, i, none⟩ = some (.int .u8 ((N / 2 ^ i % 2 : Nat) : Int)) := by
  rcases k.row.2 with ⟨h, h0⟩ | ⟨g, cap', cur, h, _⟩
  · omega
  · have hg : ao = some ⟨g, 0, none⟩ := by injection h
    refine ⟨g, hg, ?_⟩
    have := k.row.cells (g := g) (by rw [hg]; rfl) i (.int .u8 ((N / 2 ^ i % 2 : Nat) : Int)) (by simp [u8s, blN, hi])
    rw [show (⟨g, 0, none⟩ : Addr).add i = ⟨g, 0 + i, none⟩ by unfold Addr.add; split <;> simp_all, Nat.zero_add] at this
    exact this
set_option maxRecDepth 100000 in
set_option maxHeartbeats 1600000 in
theorem rtext_ok (rb : Nat) (D : Nat × Nat) (M : List Nat) (w : World) (h : RfI rb D M w) (hL : D.2 ≤ 1000000000) :
    Calls Tryz.prog 15 #[.pointer (some ⟨rb, 0, none⟩)] w fun e w' => e = .returned (.string (wtext D.1 D.2)) ∧ Fr [] w w' := by
  obtain ⟨N, L⟩ := D
  obtain ⟨v, rfl, hw⟩ := h
  simp only at hw hL ⊢
  obtain ⟨ao, cap, rfl⟩ := hw.form
  have c0 := cell_of hw.blk 0
  simp at c0
  have i1 : (L : Int) ≤ 1000000000 := by omega
  obtain ⟨q, hq⟩ : ∃ q, (L + 7) / 8 = q := ⟨_, rfl⟩
  have hq' : ((L : Int) + 7) / 8 = (q : Int) := by omega
  have hmk := run_make_bytes w q (by omega)
  have HW := Lib.hid hw
  have HQ := Lib.hid hq
  have i2 : (q : Int) ≤ 1000000000 := by omega
  have hn := new_of w (.cells (Lib.byteCells (List.replicate q 0)).toArray 5)
  have hf : Fr [] w (w.alloc (.cells (Lib.byteCells (List.replicate q 0)).toArray 5)) := Fr.alloc _ _ _
  have HN := Lib.hid (And.intro hn hf)
  clear hw hq hn hf
  go_enter Tryz.func15, Tryz.ntmps15
  go_wp2_with fail
  go_loopw [4] (fun i wr => ∃ k : Nat, k ≤ L ∧ i = .int .i64 k ∧ wr.heap[w.heap.size]? = some (.cells (Lib.byteCells (lebL (N % 2 ^ k) q)).toArray 5 (0, 0)) ∧ Fr [] w wr) (fun i _ => L - (intOf i).toNat)
  case atStart => exact ⟨0, Nat.zero_le _, rfl, by rw [Nat.pow_zero, Nat.mod_one, lebL_zeroR]; exact HN.out.1, HN.out.2⟩
  case round =>
    obtain ⟨k, hk, rfl, hblk, hF⟩ := hrel
    have hb0 := hF.blk HW.out.blk (by simp)
    have d0 := cell_of hb0 0
    simp at d0
    by_cases hlt : k < L
    · obtain ⟨t, ht⟩ : ∃ t, N / 2 ^ k % 2 = t := ⟨_, rfl⟩
      have hX : Rf rb N L (.slice ao L cap) wr := ⟨hb0, ownsRow_to HW.out.row hF (by simp), HW.out.ne, HW.out.lt⟩
      obtain ⟨g, rfl, hck⟩ := hX.bit k hlt
      rw [ht] at hck
      obtain ⟨j, hj⟩ : ∃ j, k / 8 = j := ⟨_, rfl⟩
      obtain ⟨m, hm⟩ : ∃ m, k % 8 = m := ⟨_, rfl⟩
      have hj' : (k : Int) / 8 = (j : Int) := by omega
      have hm' : (k : Int) % 8 = (m : Int) := by omega
      have hm8 : (m : Int) ≤ 7 := by omega
      have hjq : (j : Int) < (q : Int) := by have := HQ.out; omega
      have hjq' : j < q := by omega
      obtain ⟨s1, s2, s3⟩ := leb_setR (N % 2 ^ k) q k (Nat.mod_lt _ (Nat.pow_pos (by decide))) (by have := HQ.out; omega)
      rw [hj, hm] at s2 s3
      rw [hj] at s1
      have hmod := bit_modR N k
      rw [ht] at hmod
      obtain ⟨y, hy⟩ : ∃ y, N % 2 ^ k / 2 ^ (8 * j) = y := ⟨_, rfl⟩
      rw [hy] at s1 s2 s3
      have hcj : wr.cell? ⟨w.heap.size, j, none⟩ = some (.int .u8 (y : Int)) := by
        have hp : 0 < 2 ^ m := Nat.pow_pos (by decide)
        rw [cell_of hblk]; simp [Lib.byteCells, s1, Nat.mod_eq_of_lt (show y < 256 by omega)]
      have hfj := free_of hblk j
      have hset := set_of hblk j (.int .u8 ((UInt8.ofNat (y + 2 ^ m)).toNat : Int))
      rw [byteCells_setR, s3] at hset
      have HS := Lib.hid (And.intro hmod (And.intro hy ht))
      have HB := Lib.hid hblk
      have ht2 : t = 0 ∨ t = 1 := by omega
      have hset0 := set_of hblk j (.int .u8 ((UInt8.ofNat y).toNat : Int))
      have hs0 : (lebL (N % 2 ^ k) q).set j (UInt8.ofNat y) = lebL (N % 2 ^ k) q := by
        obtain ⟨hlt, he⟩ := List.getElem?_eq_some_iff.1 s1
        rw [← he]; exact List.set_getElem_self hlt
      have hp2 : 0 < 2 ^ m := Nat.pow_pos (by decide)
      have hy2 : (UInt8.ofNat y).toNat = y := by simp; omega
      have hy3 : (UInt8.ofNat (y + 2 ^ m)).toNat = y + 2 ^ m := by simp; omega
      have hylt : y < 2 ^ m := by
        rw [← hy, Nat.div_lt_iff_lt_mul (Nat.pow_pos (by decide)), Nat.mul_comm, ← Nat.pow_add, show 8 * j + m = k by omega]
        exact Nat.mod_lt _ (Nat.pow_pos (by decide))
      have hor0 : bits .or .u8 (y : Int) 0 = (y : Int) := by
        have := u8_or_nat y 0 (by omega) (by omega)
        simpa using this
      have hc2 : ((2 : Int) ^ m % 256) = ((2 ^ m : Nat) : Int) := by
        have hc : ((2:Int) ^ m) = ((2 ^ m : Nat) : Int) := by simp
        rw [hc]; omega
      have hor1 : bits .or .u8 (y : Int) ((2 : Int) ^ m % 256) = ((y + 2 ^ m : Nat) : Int) := by
        rw [hc2, u8_or_nat y (2 ^ m) (by omega) (by omega)]
        have h9 := Nat.two_pow_add_eq_or_of_lt hylt 1
        rw [Nat.mul_one] at h9
        rw [Nat.or_comm, ← h9, Nat.add_comm]
      rw [byteCells_setR, hs0, hy2] at hset0
      rw [hy3] at hset
      have HS0 := Lib.hid hset0
      have HS2 := Lib.hid hset
      clear hset0 hs0 hp2 hy2 hy3 hylt hc2 s1 s3 hset hmod hy hX hblk ht hj hm hmk hb0
      rcases ht2 with rfl | rfl
      · go_wp2_with fail
        first | refine wp_region_quiet_tail 21 (by kernel_rfl) (by kernel_rfl) ?_ | refine wp_region_quiet_tail 20 (by kernel_rfl) (by kernel_rfl) ?_
        simp only [List.take_succ_cons, List.take_zero, List.drop_succ_cons, List.drop_zero]
        repeat go_big_quiet_step (fail)
        refine wpQuiet_nil ?_
        go_wp2_with fail
        go_roundw
        case rel => exact ⟨k + 1, by omega, by go_num, by rw [HS.out.1, Nat.mul_zero, Nat.add_zero]; exact HS0.out, Fr.drew ((Fr.setCell _ _ _ _).outL hF (by simp))⟩
        case measure => simp [intOf]; omega
      · go_wp2_with fail
        first | refine wp_region_quiet_tail 21 (by kernel_rfl) (by kernel_rfl) ?_ | refine wp_region_quiet_tail 20 (by kernel_rfl) (by kernel_rfl) ?_
        simp only [List.take_succ_cons, List.take_zero, List.drop_succ_cons, List.drop_zero]
        repeat go_big_quiet_step (fail)
        refine wpQuiet_nil ?_
        go_wp2_with fail
        go_roundw
        case rel => exact ⟨k + 1, by omega, by go_num, by rw [HS.out.1, Nat.mul_one, show (y : Int) + 2 ^ m = ((y + 2 ^ m : Nat) : Int) by simp]; exact HS2.out, Fr.drew ((Fr.setCell _ _ _ _).outL hF (by simp))⟩
        case measure => simp [intOf]; omega
    · have hke : k = L := by omega
      subst hke
      rw [Nat.mod_eq_of_lt HW.out.lt] at hblk
      have hcv := run_convert_cellsR wr 36 9 5 5 Tryz.underlying36 Tryz.underlying5 Tryz.underlying9 w.heap.size q q (lebL N q) hblk (by rw [length_lebL]; exact Nat.le_refl _)
      rw [List.take_of_length_le (by rw [length_lebL]; exact Nat.le_refl _)] at hcv
      have ht : (⟨(lebL N q).toArray⟩ : ByteArray) = wtext N k := by rw [wtext, HQ.out]; rfl
      rw [ht] at hcv
      clear hblk hb0 ht
      go_wp2_with fail
      go_ret
      exact ⟨rfl, hF⟩
end Go.Proofs.YtciejmlhdmjajaaGreat
namespace Go.Proofs.YtciejmlhdmjajaaGreat
set_option linter.unusedVariables false
set_option linter.unusedSimpArgs false

/-- Bits of a number. -/
def fld (N a k : Nat) : Nat := N / 2 ^ a % 2 ^ k
theorem fld_mod (N m a k : Nat) (h : a + k ≤ m) : fld (N % 2 ^ m) a k = fld N a k := by
  unfold fld
  apply Nat.eq_of_testBit_eq
  intro i
  rw [Nat.testBit_mod_two_pow, Nat.testBit_mod_two_pow, Nat.testBit_div_two_pow, Nat.testBit_div_two_pow, Nat.testBit_mod_two_pow]
  by_cases hi : i < k
  · have : a + i < m := by omega
    simp [hi, show i + a < m by omega]
  · simp [hi]
/-- B begins as A. -/
def Ext (A B : Nat × Nat) : Prop := A.2 ≤ B.2 ∧ B.1 % 2 ^ A.2 = A.1
def OkD (D : Nat × Nat) : Prop := D.1 < 2 ^ D.2
theorem Ext.refl {A : Nat × Nat} (h : OkD A) : Ext A A := ⟨Nat.le_refl _, Nat.mod_eq_of_lt h⟩
theorem Ext.trans {A B C : Nat × Nat} (h : Ext A B) (k : Ext B C) : Ext A C := ⟨Nat.le_trans h.1 k.1, by rw [← h.2, ← k.2, Nat.mod_mod_of_dvd _ (Nat.pow_dvd_pow 2 h.1)]⟩
theorem Ext.put {A : Nat × Nat} (h : OkD A) (p : Nat × Nat) : Ext A (putP A p) := ⟨by simp [putP], by
  simp only [putP]
  rw [Nat.add_mul_mod_self_right, Nat.mod_eq_of_lt h]⟩
theorem OkD.put {A p : Nat × Nat} (h : OkD A) (hp : p.1 < 2 ^ p.2) : OkD (putP A p) := new_lt A.1 p.1 A.2 p.2 h hp
theorem Ext.fld {A B : Nat × Nat} (h : Ext A B) (a k : Nat) (hk : a + k ≤ A.2) : fld B.1 a k = fld A.1 a k := by rw [← h.2, fld_mod _ _ _ _ hk]
theorem fld_put {A p : Nat × Nat} (h : OkD A) (hp : p.1 < 2 ^ p.2) : fld (putP A p).1 A.2 p.2 = p.1 := by
  unfold Go.Proofs.YtciejmlhdmjajaaGreat.fld
  simp only [putP]
  rw [Nat.add_mul_div_right _ _ (Nat.pow_pos (by decide)), Nat.div_eq_of_lt h, Nat.zero_add, Nat.mod_eq_of_lt hp]
/-- One stored block behind D. -/
theorem oneD_facts {D : Nat × Nat} (h : OkD D) (s : ByteArray) (last : Bool) (hs : s.size ≤ 65535) (at_ : Nat) (hat : at_ = (D.2 + 3 + 7) / 8) :
    OkD (oneD D s last) ∧ Ext D (oneD D s last) ∧ (oneD D s last).2 = 8 * (at_ + 4 + s.size) ∧ fld (oneD D s last).1 (8 * at_) 16 = s.size ∧ fld (oneD D s last).1 (8 * at_ + 16) 16 = 65535 - s.size ∧ fld (oneD D s last).1 (8 * (at_ + 4)) (8 * s.size) = num s := by
  unfold oneD
  have o1 : OkD (putP D (last.toNat, 3)) := h.put (by cases last <;> simp)
  have o2 : OkD (padP (putP D (last.toNat, 3))) := o1.put (Nat.pow_pos (by decide))
  have e2 : (padP (putP D (last.toNat, 3))).2 = 8 * at_ := by unfold padP pad putP; simp only; omega
  obtain ⟨E, hE⟩ : ∃ E, padP (putP D (last.toNat, 3)) = E := ⟨_, rfl⟩
  have x1 : Ext D E := by rw [← hE]; exact (Ext.put h _).trans (Ext.put o1 _)
  rw [hE] at o2 e2 ⊢
  have p16 : (65535 : Nat) < 2 ^ 16 := by decide
  have o3 : OkD (putP E (s.size, 16)) := o2.put (by simp only; omega)
  have o4 : OkD (putP (putP E (s.size, 16)) (65535 - s.size, 16)) := o3.put (by simp only; omega)
  have o5 : OkD (putP (putP (putP E (s.size, 16)) (65535 - s.size, 16)) (num s, 8 * s.size)) := o4.put (num_lt s)
  have f1 := fld_put (p := (s.size, 16)) o2 (by simp only; omega)
  have f2 := fld_put (p := (65535 - s.size, 16)) o3 (by simp only; omega)
  have f3 := fld_put (p := (num s, 8 * s.size)) o4 (num_lt s)
  have l3 : (putP E (s.size, 16)).2 = 8 * at_ + 16 := by simp only [putP]; omega
  have l4 : (putP (putP E (s.size, 16)) (65535 - s.size, 16)).2 = 8 * (at_ + 4) := by simp only [putP]; omega
  have l5 : (putP (putP (putP E (s.size, 16)) (65535 - s.size, 16)) (num s, 8 * s.size)).2 = 8 * (at_ + 4 + s.size) := by simp only [putP]; omega
  have k3 := Ext.put o3 (65535 - s.size, 16)
  have k4 := Ext.put o4 (num s, 8 * s.size)
  refine ⟨o5, ((x1.trans (Ext.put o2 _)).trans k3).trans k4, l5, ?_, ?_, ?_⟩
  · rw [(k3.trans k4).fld _ _ (by rw [l3]; omega), ← e2]; exact f1
  · rw [k4.fld _ _ (by rw [l4]; omega), ← l3]; exact f2
  · rw [← l4]; exact f3
theorem storedF_ext : ∀ (f : Nat) (last : Bool) (D : Nat × Nat) (r : ByteArray), OkD D → Ext D (storedF f last D r) ∧ OkD (storedF f last D r) := by
  intro f
  induction f with
  | zero => intro last D r h; exact ⟨Ext.refl h, h⟩
  | succ f ih =>
    intro last D r h
    unfold storedF
    split
    · rename_i hr
      have := oneD_facts h r last hr _ rfl
      exact ⟨this.2.1, this.1⟩
    · rename_i hr
      have := oneD_facts h (r.extract 0 65535) false (by rw [ByteArray.size_extract]; omega) _ rfl
      have h2 := ih last (oneD D (r.extract 0 65535) false) (r.extract 65535 r.size) this.1
      exact ⟨this.2.1.trans h2.1, h2.2⟩
theorem leb_size (N k : Nat) : (leb N k).size = k := size_leb N k
theorem leb_get (N k i : Nat) (h : i < (leb N k).size) : ((leb N k)[i]).toNat = fld N (8 * i) 8 := by
  have h1 : i < (lebL N k).length := by rw [length_lebL]; rw [size_leb] at h; exact h
  have h2 := numL_get (lebL N k) i h1
  rw [numL_lebL, show (256 : Nat) ^ k = 2 ^ (8 * k) by rw [pow256]] at h2
  have h3 : ((leb N k)[i]).toNat = ((lebL N k)[i]).toNat := rfl
  refine h3.trans (h2.trans ?_)
  have h4 := fld_mod N (8 * k) (8 * i) 8 (by rw [length_lebL] at h1; omega)
  unfold fld at h4 ⊢
  exact h4
theorem leb_two (N i : Nat) : fld N (8 * i) 8 + 256 * fld N (8 * (i + 1)) 8 = fld N (8 * i) 16 := by
  unfold fld
  rw [show 8 * (i + 1) = 8 * i + 8 by omega, Nat.pow_add, ← Nat.div_div_eq_div_mul]
  generalize N / 2 ^ (8 * i) = x
  omega
theorem leb_part (N k a b : Nat) (hb : b ≤ k) (s : ByteArray) (hs : s.size = b - a) (hab : a ≤ b) (h : fld N (8 * a) (8 * (b - a)) = num s) : (leb N k).extract a b = s := by
  apply num_inj
  · rw [ByteArray.size_extract, size_leb]; omega
  · rw [← h]
    have e : num ((leb N k).extract a b) = numL (((lebL N k).drop a).take (b - a)) := by
      unfold num
      rw [ByteArray.data_extract]
      congr 1
      show ((lebL N k).toArray.extract a b).toList = _
      rw [Array.toList_extract, List.extract_eq_take_drop]
    rw [e, numL_take, numL_drop, numL_lebL, pow256, pow256, pow256]
    have h4 := fld_mod N (8 * k) (8 * a) (8 * (b - a)) (by omega)
    unfold fld at h4 ⊢
    exact h4
end Go.Proofs.YtciejmlhdmjajaaGreat
namespace Go.Proofs.YtciejmlhdmjajaaGreat
open Go.RowKit
set_option linter.unusedVariables false
set_option linter.unusedSimpArgs false

theorem head_put (D : Nat × Nat) (k l : Nat) : putP (putP D (l, 1)) (k, 2) = putP D (2 * k + l, 3) := by
  simp only [putP, Nat.pow_succ, Nat.add_mul]
  congr 1
  rw [Nat.add_assoc, Nat.add_comm (l * 2 ^ D.2), Nat.mul_comm 2 k, Nat.mul_assoc, Nat.mul_comm 2 (2 ^ D.2)]
set_option maxRecDepth 100000 in
set_option maxHeartbeats 1600000 in
theorem rhead_ok (rb k : Nat) (last : Bool) (D : Nat × Nat) (M : List Nat) (W : World) (h : RfI rb D M W) (hk : k ≤ 2) (hL : D.2 ≤ 90000000) :
    Calls Tryz.prog 31 #[.pointer (some ⟨rb, 0, none⟩), .int .u8 (k : Int), .bool last] W fun e w' => e = .returned (.tuple #[]) ∧ RfTo rb (putP D (2 * k + last.toNat, 3)) M W w' := by
  have HI := Lib.hid h.refl
  have hki : (k : Int) ≤ 2 := by omega
  have HP := Lib.hid (head_put D k last.toNat)
  clear h
  cases last
  all_goals
    go_enter Tryz.func31, Tryz.ntmps31
    go_wp2_with fail
    first
      | refine (rput_to (n := 0) (size := 1) HI.out (by omega) (by omega) (by omega) (by rfl) (by rfl)).mono ?_
      | refine (rput_to (n := 1) (size := 1) HI.out (by omega) (by omega) (by omega) (by rfl) (by rfl)).mono ?_
    rintro e w1 ⟨rfl, h1⟩
    have H1 := Lib.hid h1
    clear h1
    go_wp2_with fail
    refine (rput_to (n := k) (size := 2) H1.out (by omega) (by omega) (by simp only [putP]; omega) (by rfl) (by rfl)).mono ?_
    rintro e w2 ⟨rfl, h2⟩
    have H2 := Lib.hid h2
    clear h2
    go_wp2_with fail
    refine bodyPost_end (v := .tuple #[]) (by simp [results, Tryz.results31, go_sem]) rfl ?_
    refine ⟨rfl, ?_⟩
    rw [← HP.out]
    exact H2.out
theorem rhead_to {rb k : Nat} {last : Bool} {D : Nat × Nat} {M : List Nat} {V W : World} (h : RfTo rb D M V W) (hk : k ≤ 2) (hL : D.2 ≤ 90000000) :
    Calls Tryz.prog 31 #[.pointer (some ⟨rb, 0, none⟩), .int .u8 (k : Int), .bool last] W fun e w' => e = .returned (.tuple #[]) ∧ RfTo rb (putP D (2 * k + last.toNat, 3)) M V w' := by
  obtain ⟨M1, k1, f1, n1⟩ := h
  exact (rhead_ok rb k last D M1 W k1 hk hL).mono fun e w' ⟨h1, h2⟩ => ⟨h1, RfTo.trans k1 f1 n1 h2⟩
theorem put_byteD (D : Nat × Nat) (r : ByteArray) (i : Nat) (h : i < r.size) : putP (putP D (numL (r.data.toList.take i), 8 * i)) ((r[i]).toNat, 8) = putP D (numL (r.data.toList.take (i + 1)), 8 * (i + 1)) := by
  have hl : i < r.data.toList.length := by simpa using h
  have e : numL (r.data.toList.take (i + 1)) = numL (r.data.toList.take i) + 2 ^ (8 * i) * (r[i]).toNat := by
    rw [List.take_succ_eq_append_getElem hl, numL_append, List.length_take, Nat.min_eq_left (by omega), pow256]
    simp [numL]
    rfl
  simp only [putP]
  rw [e, Nat.add_mul, Nat.pow_add]
  congr 1
  rw [Nat.add_assoc, Nat.mul_comm (2 ^ (8 * i)), Nat.mul_assoc, Nat.mul_comm (2 ^ (8 * i))]
theorem num_take (r : ByteArray) (n : Nat) : num (r.extract 0 n) = numL (r.data.toList.take n) := by
  unfold num
  rw [ByteArray.data_extract]
  congr 1
  rw [Array.toList_extract, List.extract_eq_take_drop]
  simp
theorem put_pad (D : Nat × Nat) (i : Nat) : putP (putP D (0, i)) (0, 1) = putP D (0, i + 1) := by simp [putP, Nat.add_assoc]
theorem pad_size' (D : Nat × Nat) : (padP D).2 = D.2 + pad D.2 := rfl
set_option maxRecDepth 100000 in
set_option maxHeartbeats 3200000 in
theorem rstored_ok (rb : Nat) (raw : ByteArray) (last : Bool) (D : Nat × Nat) (M : List Nat) (W : World) (h : RfI rb D M W) (hr : raw.size ≤ 1048576) (hL : D.2 ≤ 10000000) :
    Calls Tryz.prog 30 #[.pointer (some ⟨rb, 0, none⟩), .string raw, .bool last] W fun e w' => e = .returned (.tuple #[]) ∧ RfTo rb (storedF 17 last D raw) M W w' := by
  have HI := Lib.hid h.refl
  obtain ⟨T, hT⟩ : ∃ T, storedF 17 last D raw = T := ⟨_, rfl⟩
  rw [hT]
  have HT := Lib.hid (And.intro hT (And.intro hr hL))
  clear h hT hr hL
  go_enter Tryz.func30, Tryz.ntmps30
  go_wp2_with fail
  go_loopw [1] (fun v1 wr => ∃ (r : ByteArray) (f : Nat) (D' : Nat × Nat), v1 = .string r ∧ RfTo rb D' M W wr ∧ 1 ≤ f ∧ f ≤ 17 ∧ r.size ≤ f * 65535 ∧ storedF f last D' r = T ∧ D'.2 + 8 * r.size + 50 * f ≤ 20000000) (fun v1 _ => stMes v1 (.bool false))
  case atStart => exact ⟨raw, 17, D, rfl, HI.out, by omega, by omega, by have := HT.out; omega, HT.out.1, by have := HT.out; omega⟩
  case round =>
    obtain ⟨r, f, D', rfl, hR, hf1, hf17, hrf, hst, hb⟩ := hrel
    obtain ⟨n, hn⟩ : ∃ n, min r.size 65535 = n := ⟨_, rfl⟩
    have hn1 : n ≤ r.size := by omega
    have hni : min (r.size : Int) 65535 = (n : Int) := by omega
    have hn6 : (n : Int) ≤ 65535 := by omega
    have hns : (n : Int) ≤ (r.size : Int) := by omega
    have hsz : (r.size : Int) ≤ 2500000 := by omega
    have HR := Lib.hid hR
    have HD' := Lib.hid (And.intro hf1 (And.intro hrf (And.intro hst (And.intro hb hn))))
    clear hR hst hrf hn hb
    go_upto_region 1 with fail
    go_cut [] from 11 to 19 (fun wx => RfTo rb (putP D' ((last && decide (n = r.size)).toNat, 3)) M W wx)
    case first =>
      have HC := Lib.hid (fun (b : Bool) => rhead_to (k := 0) (last := b) HR.out (by omega) (by have := HD'.out.2.2.2.1; omega))
      cases last
      · go_wp2_with fail
        refine (HC.out false).mono ?_
        rintro e w2 ⟨rfl, h2⟩
        have H2 := Lib.hid h2
        clear h2
        go_wp2_with fail
        go_meet
        case rel => simpa using H2.out
      · by_cases hl : n = r.size
        · have hli : ((n : Int) == (r.size : Int)) = true := by rw [beq_iff_eq]; omega
          have HL := Lib.hid hl
          clear hl
          go_wp2_with fail
          refine (HC.out true).mono ?_
          rintro e w2 ⟨rfl, h2⟩
          have H2 := Lib.hid h2
          clear h2
          go_wp2_with fail
          go_meet
          case rel => simpa [HL.out] using H2.out
        · have hli : ((n : Int) == (r.size : Int)) = false := by rw [beq_eq_false_iff_ne]; omega
          go_wp2_with fail
          refine (HC.out false).mono ?_
          rintro e w2 ⟨rfl, h2⟩
          have H2 := Lib.hid h2
          clear h2
          go_wp2_with fail
          go_meet
          case rel => simpa [hl] using H2.out
    case rest =>
    obtain ⟨D1, hD1⟩ : ∃ D1, putP D' ((last && decide (n = r.size)).toNat, 3) = D1 := ⟨_, rfl⟩
    rw [hD1] at hcut
    have H1 := Lib.hid hcut
    have HD1 := Lib.hid hD1
    have hD1s : D1.2 = D'.2 + 3 := by rw [← hD1]; rfl
    have hb1 : D1.2 ≤ 20000010 := by have := HD'.out.2.2.2.1; omega
    clear hcut hD1
    go_wp2_with fail
    go_loopg [] (pad D1.2) (fun g wr => ∃ i : Nat, g = pad D1.2 - i ∧ i ≤ pad D1.2 ∧ RfTo rb (putP D1 (0, i)) M W wr)
    case atStart => exact ⟨0, by omega, by omega, by simpa [putP] using H1.out⟩
    case round =>
      obtain ⟨i, rfl, hi, hP⟩ := hrel
      have HP := Lib.hid hP
      obtain ⟨M1, ⟨v, rfl, k⟩, f1, n1⟩ := hP
      obtain ⟨ao, cap, rfl⟩ := k.form
      have c0 := cell_of k.blk 0
      simp at c0
      have hls : (putP D1 (0, i)).2 = D1.2 + i := rfl
      rw [hls] at c0
      have hpd : pad D1.2 ≤ 7 := by unfold pad; omega
      obtain ⟨z, hz⟩ : ∃ z, D1.2 + i = z := ⟨_, rfl⟩
      rw [hz] at c0
      by_cases hlt : i < pad D1.2
      · have hne : ((z : Int) % 8 != 0) = true := by rw [bne_iff_ne]; unfold pad at hlt; omega
        have hbi : (z : Int) ≤ 30000000 := by omega
        clear k f1 n1
        go_wp2_with fail
        refine (rput_to (n := 0) (size := 1) HP.out (by omega) (by omega) (by simp only [putP]; omega) (by rfl) (by rfl)).mono ?_
        rintro e w2 ⟨rfl, h2⟩
        rw [put_pad] at h2
        have H2 := Lib.hid h2
        clear h2
        go_wp2_with fail
        go_roundg (pad D1.2 - (i + 1))
        case measure => omega
        case rel => exact ⟨i + 1, rfl, by omega, H2.out⟩
      · have hie : i = pad D1.2 := by omega
        have hne : (z : Int) % 8 = 0 := by rw [hie] at hz; unfold pad at hz; omega
        have hbi : (z : Int) ≤ 30000000 := by omega
        subst hie
        have HP2 : Hid (RfTo rb (padP D1) M W wr) := HP
        clear k f1 n1
        go_wp2_with fail
        have hp3 : (padP D1).2 ≤ 20000020 := by rw [pad_size']; omega
        refine (rput_to (n := n) (size := 16) HP2.out (by omega) (by omega) (by omega) (by rfl) (by rfl)).mono ?_
        rintro e w2 ⟨rfl, h2⟩
        have H2 := Lib.hid h2
        clear h2
        go_wp2_with fail
        refine (rput_to (n := 65535 - n) (size := 16) H2.out (by omega) (by omega) (by simp only [putP] at hp3 ⊢; omega) (by omega) (by rfl)).mono ?_
        rintro e w3 ⟨rfl, h3⟩
        obtain ⟨D4, hD4⟩ : ∃ D4, putP (putP (padP D1) (n, 16)) (65535 - n, 16) = D4 := ⟨_, rfl⟩
        rw [hD4] at h3
        have hD4s : D4.2 = D1.2 + pad D1.2 + 32 := by rw [← hD4]; simp only [putP, padP]
        have H3 := Lib.hid h3
        have HD4 := Lib.hid hD4
        clear h3 hD4
        go_wp2_with fail
        go_loopw [7] (fun v7 wr => ∃ i : Nat, i ≤ n ∧ v7 = .int .i64 (i : Int) ∧ RfTo rb (putP D4 (numL (r.data.toList.take i), 8 * i)) M W wr) (fun v7 _ => n - (intOf v7).toNat)
        case atStart => exact ⟨0, by omega, rfl, by simpa [numL, putP] using H3.out⟩
        case round =>
          obtain ⟨i, hi, rfl, hB⟩ := hrel
          have HB := Lib.hid hB
          clear hB
          by_cases hlt2 : i < n
          · have hii : (i : Int) < (n : Int) := by omega
            have hir : i < r.size := by omega
            have hix := fun (x : World) => run_index_text (P := Tryz.prog) x 9 r .i64 i Tryz.underlying9 hir
            have hst2 := put_byteD D4 r i hir
            obtain ⟨y, hy⟩ : ∃ y, (r[i]).toNat = y := ⟨_, rfl⟩
            have hy8 : y < 256 := by rw [← hy]; exact (r[i]).toNat_lt
            rw [hy] at hst2
            simp only [hy] at hix
            have hyi : (y : Int) < 256 := by omega
            have HS2 := Lib.hid hst2
            clear hst2 hy
            go_wp2_with fail
            refine (rput_to (n := y) (size := 8) HB.out (by omega) (by omega) (by simp only [putP]; have := HD'.out.2.2.2.1; omega) (by rfl) (by rfl)).mono ?_
            rintro e w4 ⟨rfl, h4⟩
            rw [HS2.out] at h4
            have H4 := Lib.hid h4
            clear h4
            go_wp2_with fail
            exact ⟨⟨i + 1, by omega, by go_num, H4.out⟩, by simp [intOf]; omega⟩
          · have hie2 : i = n := by omega
            subst hie2
            obtain ⟨r2, hr2⟩ : ∃ r2, r.extract i r.size = r2 := ⟨_, rfl⟩
            have hrl : ∀ W : World, (Instr.slice 9 (.string r) (some (.int .i64 (i : Int))) none none).run Tryz.prog W = .ok (.string r2) W := fun W => by
              rw [run_slice_string_l W _ r Tryz.underlying9 .i64 (i : Int) (by omega) (by omega), ← hr2]
              simp
            have hr2s : r2.size = r.size - i := by rw [← hr2, ByteArray.size_extract]; omega
            have h5 : putP D4 (numL (r.data.toList.take i), 8 * i) = oneD D' (r.extract 0 i) (last && decide (i = r.size)) := by
              unfold oneD
              rw [num_take, HD1.out, show (r.extract 0 i).size = i by rw [ByteArray.size_extract]; omega, HD4.out]
            have HB5 := Lib.hid HB.out
            rw [h5] at HB5
            obtain ⟨g1, g2, g3, g4, g5⟩ := HD'.out
            obtain ⟨f, rfl⟩ : ∃ f', f = f' + 1 := ⟨f - 1, by omega⟩
            unfold storedF at g3
            by_cases hlast : r.size ≤ 65535
            · rw [if_pos hlast] at g3
              have e : i = r.size := by omega
              have hTT : oneD D' (r.extract 0 i) (last && decide (i = r.size)) = T := by rw [e, extract_whole]; simpa using g3
              rw [hTT] at HB5
              have hne2 : r2.toList.isEmpty = true := by
                rw [ByteArray.toList_eq, List.isEmpty_iff, ← List.length_eq_zero_iff]
                have h1 : r2.size = r2.data.toList.length := Lib.size_eq r2
                omega
              clear HB h5 g1 g2 g3 g4 g5 e hTT hr2 hr2s hlast
              go_wp2_with fail
              refine bodyPost_ret (v := .tuple #[]) (by simp [results, Tryz.results30, go_sem]) rfl ?_
              exact ⟨rfl, HB5.out⟩
            · rw [if_neg hlast] at g3
              have e : i = 65535 := by omega
              have hTT : oneD D' (r.extract 0 i) (last && decide (i = r.size)) = oneD D' (r.extract 0 65535) false := by rw [e, show decide (65535 = r.size) = false by simp; omega, Bool.and_false]
              rw [hTT] at HB5
              have hne2 : r2.toList.isEmpty = false := by
                rw [ByteArray.toList_eq, List.isEmpty_eq_false_iff]
                intro h
                have h1 : r2.size = r2.data.toList.length := Lib.size_eq r2
                rw [h, List.length_nil] at h1
                omega
              have hos : (oneD D' (r.extract 0 65535) false).2 = D'.2 + 3 + (8 - (D'.2 + 3) % 8) % 8 + 32 + 8 * 65535 := by rw [oneD_size, ByteArray.size_extract]; congr 2; omega
              have HG := Lib.hid (And.intro g2 (And.intro g3 (And.intro g4 (And.intro e (And.intro hr2 (And.intro hr2s hos))))))
              clear HB h5 g1 g2 g3 g4 g5 e hTT hr2 hr2s hos
              go_wp2_with fail
              obtain ⟨q1, q2, q3, q4, q5, q6, q7⟩ := HG.out
              refine ⟨⟨r2, f, _, rfl, HB5.out, by omega, by omega, by omega, by rw [← q5, q4]; exact q2, by rw [q7]; omega⟩, by simp only [stMes]; omega⟩
end Go.Proofs.YtciejmlhdmjajaaGreat
namespace Go.Proofs.YtciejmlhdmjajaaGreat
open Go.RowKit
set_option linter.unusedVariables false
set_option linter.unusedSimpArgs false

set_option maxRecDepth 100000 in
set_option maxHeartbeats 3200000 in
theorem refFixed_ok (w : World) : Calls Tryz.prog 33 #[] w fun e w' => ∃ g1 g2, e = .returned (.agg #[.slice (some ⟨g1, 0, none⟩) 288 288, .slice (some ⟨g2, 0, none⟩) 30 30]) ∧ w.heap.size ≤ g1 ∧ w.heap.size ≤ g2 ∧ Nrow w' g1 5 .u8 288 fixF ∧ Nrow w' g2 5 .u8 30 (fun _ => 5) ∧ Fr [] w w' := by
  have hm1 : ∀ W : World, (Instr.makeSlice 36 (.int .i64 288) (.int .i64 288)).run Tryz.prog W = .ok (.slice (some ⟨W.heap.size, 0, none⟩) 288 288) (W.alloc (.cells (zr8 288) 5)) := fun W => run_make_bytes W 288 (by omega)
  have hm2 : ∀ W : World, (Instr.makeSlice 36 (.int .i64 30) (.int .i64 30)).run Tryz.prog W = .ok (.slice (some ⟨W.heap.size, 0, none⟩) 30 30) (W.alloc (.cells (zr8 30) 5)) := fun W => run_make_bytes W 30 (by omega)
  go_enter Tryz.func33, Tryz.ntmps33
  go_upto_region 1 with fail
  go_cut [1] from 4 to 6 (fun v1 wx => FixMade (w.alloc (.cells #[.slice none 0 0, .slice none 0 0] 45)) v1 wx)
  case first =>
    go_wp2_with fail
    go_region
    all_goals go_wp2_with fail
    all_goals go_meet
    case rel => exact ⟨w.heap.size + 1 + 1 + 1, w.heap.size + 1, w.heap.size + 1 + 1, rfl, by omega, by omega, by omega, by simp <;> omega, by simp <;> omega, by simp <;> omega, by unfold CodesM; simp only [get_drew, get_alloc, World.size_alloc]; simp, by unfold Nrow; rw [← zr8_row]; simp only [get_drew, get_alloc, World.size_alloc]; simp, by unfold Nrow; rw [← zr8_row]; simp only [get_drew, get_alloc, World.size_alloc]; simp, (((Fr.alloc [] _ _).trans (Fr.alloc [] _ _)).trans (Fr.alloc [] _ _)).drew⟩
    case rel => exact ⟨w.heap.size + 1 + 1, w.heap.size + 1, w.heap.size + 1 + 1 + 1, rfl, by omega, by omega, by omega, by simp <;> omega, by simp <;> omega, by simp <;> omega, by unfold CodesM; simp only [get_drew, get_alloc, World.size_alloc]; simp, by unfold Nrow; rw [← zr8_row]; simp only [get_drew, get_alloc, World.size_alloc]; simp, by unfold Nrow; rw [← zr8_row]; simp only [get_drew, get_alloc, World.size_alloc]; simp, (((Fr.alloc [] _ _).trans (Fr.alloc [] _ _)).trans (Fr.alloc [] _ _)).drew⟩
    case rel => exact ⟨w.heap.size + 1 + 1 + 1, w.heap.size + 1 + 1, w.heap.size + 1, rfl, by omega, by omega, by omega, by simp <;> omega, by simp <;> omega, by simp <;> omega, by unfold CodesM; simp only [get_drew, get_alloc, World.size_alloc]; simp, by unfold Nrow; rw [← zr8_row]; simp only [get_drew, get_alloc, World.size_alloc]; simp, by unfold Nrow; rw [← zr8_row]; simp only [get_drew, get_alloc, World.size_alloc]; simp, (((Fr.alloc [] _ _).trans (Fr.alloc [] _ _)).trans (Fr.alloc [] _ _)).drew⟩
    case rel => exact ⟨w.heap.size + 1 + 1, w.heap.size + 1 + 1 + 1, w.heap.size + 1, rfl, by omega, by omega, by omega, by simp <;> omega, by simp <;> omega, by simp <;> omega, by unfold CodesM; simp only [get_drew, get_alloc, World.size_alloc]; simp, by unfold Nrow; rw [← zr8_row]; simp only [get_drew, get_alloc, World.size_alloc]; simp, by unfold Nrow; rw [← zr8_row]; simp only [get_drew, get_alloc, World.size_alloc]; simp, (((Fr.alloc [] _ _).trans (Fr.alloc [] _ _)).trans (Fr.alloc [] _ _)).drew⟩
    case rel => exact ⟨w.heap.size + 1, w.heap.size + 1 + 1, w.heap.size + 1 + 1 + 1, rfl, by omega, by omega, by omega, by simp <;> omega, by simp <;> omega, by simp <;> omega, by unfold CodesM; simp only [get_drew, get_alloc, World.size_alloc]; simp, by unfold Nrow; rw [← zr8_row]; simp only [get_drew, get_alloc, World.size_alloc]; simp, by unfold Nrow; rw [← zr8_row]; simp only [get_drew, get_alloc, World.size_alloc]; simp, (((Fr.alloc [] _ _).trans (Fr.alloc [] _ _)).trans (Fr.alloc [] _ _)).drew⟩
    case rel => exact ⟨w.heap.size + 1, w.heap.size + 1 + 1 + 1, w.heap.size + 1 + 1, rfl, by omega, by omega, by omega, by simp <;> omega, by simp <;> omega, by simp <;> omega, by unfold CodesM; simp only [get_drew, get_alloc, World.size_alloc]; simp, by unfold Nrow; rw [← zr8_row]; simp only [get_drew, get_alloc, World.size_alloc]; simp, by unfold Nrow; rw [← zr8_row]; simp only [get_drew, get_alloc, World.size_alloc]; simp, (((Fr.alloc [] _ _).trans (Fr.alloc [] _ _)).trans (Fr.alloc [] _ _)).drew⟩
  case rest =>
  obtain ⟨b, g1, g2, rfl, n1, n2, n3, hb, h1, h2, hC, hN1, hN2, hf⟩ := hcut
  have hR := hf.blk (alloc_last w _) (by simp)
  simp only [World.size_alloc] at hb h1 h2
  have HN := Lib.hid (And.intro n1 (And.intro n2 (And.intro n3 (And.intro hb (And.intro h1 (And.intro h2 (And.intro hf hR)))))))
  have c0 := cell_of hC 0
  have c1 := cell_of hC 1
  simp at c0 c1
  have HC := Lib.hid (And.intro hC (And.intro hN1 hN2))
  clear n1 n2 n3 hb h1 h2 hf hR hC hN1 hN2 hm1 hm2
  go_wp2_with fail
  go_loopw [2] (fun v10 wr => ∃ k : Nat, k ≤ 288 ∧ v10 = .int .i64 (k : Int) ∧ CodesM wr b g1 g2 288 ∧ Nrow wr g1 5 .u8 288 (fun s => if s < k then fixF s else 0) ∧ Nrow wr g2 5 .u8 30 (fun _ => 0) ∧ Fr [] (w.alloc (.cells #[.slice none 0 0, .slice none 0 0] 45)) wr) (fun v10 _ => 288 - (intOf v10).toNat)
  case atStart => exact ⟨0, by omega, rfl, HC.out.1, HC.out.2.1.congr fun _ _ => by simp, HC.out.2.2, HN.out.2.2.2.2.2.2.1⟩
  case round =>
    obtain ⟨k, hk, rfl, hC, hN1, hN2, hf⟩ := hrel
    clear c0 c1
    obtain ⟨n1, n2, n3, hb, h1, h2, _, _⟩ := HN.out
    have c0 := cell_of hC 0
    simp at c0
    by_cases hlt : k < 288
    · have hki : (k : Int) < 288 := by omega
      have z := free_of hN1 k
      have zc := hN1.cell k hlt
      have HW := Lib.hid (And.intro hC (And.intro hN1 (And.intro hN2 hf)))
      clear hC hN1 hN2 hf
      by_cases ha : k < 144
      · have hai : (k : Int) < 144 := by omega
        have HF := Lib.hid (show fixF k = 8 by unfold fixF; rw [if_pos ha])
        clear ha
        go_wp2_with fail
        go_roundw
        case rel => exact ⟨k + 1, by omega, by go_num, (Fr.setCell _ _ _ _).blk HW.out.1 (by simp; omega), by
          have s1 := HW.out.2.1.set_ (G := fun s => if s < k + 1 then fixF s else 0) k 8 (fun j hj => fix_step fixF k _ HF.out j)
          simpa using s1, HW.out.2.2.1.to (Fr.setCell _ _ _ _) (by simp; omega), (Fr.setCell _ _ _ _).outL HW.out.2.2.2 (by simp; omega)⟩
        case measure => simp [intOf]; omega
      · have hai : 144 ≤ (k : Int) := by omega
        by_cases hb2 : k < 256
        · have hbi : (k : Int) < 256 := by omega
          have hci : (k : Int) < 280 := by omega
          have HF := Lib.hid (show fixF k = 9 by unfold fixF; rw [if_neg ha, if_pos hb2])
          clear ha hb2
          go_wp2_with fail
          go_roundw
          case rel => exact ⟨k + 1, by omega, by go_num, (Fr.setCell _ _ _ _).blk HW.out.1 (by simp; omega), by
            have s1 := HW.out.2.1.set_ (G := fun s => if s < k + 1 then fixF s else 0) k 9 (fun j hj => fix_step fixF k _ HF.out j)
            simpa using s1, HW.out.2.2.1.to (Fr.setCell _ _ _ _) (by simp; omega), (Fr.setCell _ _ _ _).outL HW.out.2.2.2 (by simp; omega)⟩
          case measure => simp [intOf]; omega
        · have hbi : 256 ≤ (k : Int) := by omega
          by_cases hc2 : k < 280
          · have hci : (k : Int) < 280 := by omega
            have HF := Lib.hid (show fixF k = 7 by unfold fixF; rw [if_neg ha, if_neg hb2, if_pos hc2])
            clear ha hb2 hc2
            go_wp2_with fail
            go_roundw
            case rel => exact ⟨k + 1, by omega, by go_num, (Fr.setCell _ _ _ _).blk HW.out.1 (by simp; omega), by
              have s1 := HW.out.2.1.set_ (G := fun s => if s < k + 1 then fixF s else 0) k 7 (fun j hj => fix_step fixF k _ HF.out j)
              simpa using s1, HW.out.2.2.1.to (Fr.setCell _ _ _ _) (by simp; omega), (Fr.setCell _ _ _ _).outL HW.out.2.2.2 (by simp; omega)⟩
            case measure => simp [intOf]; omega
          · have hci : 280 ≤ (k : Int) := by omega
            have HF := Lib.hid (show fixF k = 8 by unfold fixF; rw [if_neg ha, if_neg hb2, if_neg hc2])
            clear ha hb2 hc2
            go_wp2_with fail
            go_roundw
            case rel => exact ⟨k + 1, by omega, by go_num, (Fr.setCell _ _ _ _).blk HW.out.1 (by simp; omega), by
              have s1 := HW.out.2.1.set_ (G := fun s => if s < k + 1 then fixF s else 0) k 8 (fun j hj => fix_step fixF k _ HF.out j)
              simpa using s1, HW.out.2.2.1.to (Fr.setCell _ _ _ _) (by simp; omega), (Fr.setCell _ _ _ _).outL HW.out.2.2.2 (by simp; omega)⟩
            case measure => simp [intOf]; omega
    · have hke : k = 288 := by omega
      subst hke
      have c1 := cell_of hC 1
      simp at c1
      have HW := Lib.hid (And.intro hC (And.intro (hN1.congr (G := fixF) fun j hj => by rw [if_pos hj]) (And.intro hN2 hf)))
      clear hC hN1 hN2 hf
      go_wp2_with fail
      clear c0 c1
      go_loopw [3] (fun v10 wr => ∃ k : Nat, k ≤ 30 ∧ v10 = .int .i64 (k : Int) ∧ CodesM wr b g1 g2 288 ∧ Nrow wr g1 5 .u8 288 fixF ∧ Nrow wr g2 5 .u8 30 (fun s => if s < k then 5 else 0) ∧ Fr [] (w.alloc (.cells #[.slice none 0 0, .slice none 0 0] 45)) wr) (fun v10 _ => 30 - (intOf v10).toNat)
      case atStart => exact ⟨0, by omega, rfl, HW.out.1, HW.out.2.1, HW.out.2.2.1.congr fun _ _ => by simp, HW.out.2.2.2⟩
      case round =>
        obtain ⟨k, hk, rfl, hC, hN1, hN2, hf⟩ := hrel
        have c1 := cell_of hC 1
        simp at c1
        by_cases hlt : k < 30
        · have hki : (k : Int) < 30 := by omega
          have z := free_of hN2 k
          have zc := hN2.cell k hlt
          have HW := Lib.hid (And.intro hC (And.intro hN1 (And.intro hN2 hf)))
          clear hC hN1 hN2 hf
          go_wp2_with fail
          go_roundw
          case rel => exact ⟨k + 1, by omega, by go_num, (Fr.setCell _ _ _ _).blk HW.out.1 (by simp; omega), HW.out.2.1.to (Fr.setCell _ _ _ _) (by simp; omega), by
            have s1 := HW.out.2.2.1.set_ (G := fun s => if s < k + 1 then 5 else 0) k 5 (fun j hj => fix_step (fun _ => 5) k 5 rfl j)
            simpa using s1, (Fr.setCell _ _ _ _).outL HW.out.2.2.2 (by simp; omega)⟩
          case measure => simp [intOf]; omega
        · have hke : k = 30 := by omega
          subst hke
          have c0 := cell_of hC 0
          simp at c0
          have hR := hf.blk (alloc_last w _) (by simp)
          have r0 := cell_of hR 0
          have r1 := cell_of hR 1
          have fr0 := free_of hR 0
          have fr1 := free_of hR 1
          simp at r0 r1
          have HW := Lib.hid (And.intro hR (And.intro hN1 (And.intro (hN2.congr (G := fun _ => 5) fun j hj => by rw [if_pos hj]) hf)))
          clear hC hN1 hN2 hf hR
          go_wp2_with fail
          obtain ⟨hR, hN1, hN2, hf⟩ := HW.out
          have fs1 := Fr.setCell wr w.heap.size 0 (.slice (some ⟨g1, 0, none⟩) 288 288)
          have s1 := set_of hR 0 (.slice (some ⟨g1, 0, none⟩) 288 288)
          have fs2 := Fr.setCell (wr.setCell ⟨w.heap.size, 0, none⟩ (.slice (some ⟨g1, 0, none⟩) 288 288)) w.heap.size 1 (.slice (some ⟨g2, 0, none⟩) 30 30)
          have s2 := set_of s1 1 (.slice (some ⟨g2, 0, none⟩) 30 30)
          have fs := fs1.trans fs2
          have e1 : ((#[Value.slice none 0 0, Value.slice none 0 0] : Array Value).setIfInBounds 0 (.slice (some ⟨g1, 0, none⟩) 288 288)).setIfInBounds 1 (.slice (some ⟨g2, 0, none⟩) 30 30) = #[.slice (some ⟨g1, 0, none⟩) 288 288, .slice (some ⟨g2, 0, none⟩) 30 30] := by simp
          rw [e1] at s2
          (try simp only [Exit.inBlock, Exit.then])
          refine bodyPost_ret (results_cell_row rfl _ _ w.heap.size 45 _ _ _ rfl s2 Tryz.underlying45 rfl (by kernel_rfl)) rfl ?_
          refine ⟨g1, g2, rfl, by omega, by omega, hN1.to fs (by simp; omega), hN2.to fs (by simp; omega), fs.outL ((Fr.alloc [] _ _).trans hf) (by simp)⟩
end Go.Proofs.YtciejmlhdmjajaaGreat
namespace Go.Proofs.YtciejmlhdmjajaaGreat
open Go.RowKit
set_option linter.unusedVariables false
set_option linter.unusedSimpArgs false

theorem RfTo.at_ {rb : Nat} {D : Nat × Nat} {M : List Nat} {W W' : World} (h : RfTo rb D M W W') : ∃ M', RfI rb D M' W' ∧ Fr M W W' ∧ ∀ i, i ∈ M' → i ∈ M ∨ W.heap.size ≤ i := h
theorem SlOf.frU {α : Type} {enc : α → List Value} {sz : Nat} {w w' : World} {a0 : Option Addr} {xs : List α} {L : List Nat} (h : SlOf enc sz w a0 xs) (hf : Fr L w w') (hL : ∀ i, i ∈ tokB a0 xs → i ∉ L) : SlOf enc sz w' a0 xs := h.kp fun k hk => hf.block k (h.lt k hk) (hL k hk)
set_option maxRecDepth 100000 in
set_option maxHeartbeats 3200000 in
theorem rwrite_ok (rb k : Nat) (hk : k ≤ 2) (a : Option Addr) (c : Nat) (l : List Tok) (raw : ByteArray) (last : Bool) (D : Nat × Nat) (M : List Nat) (w : World) (h : RfI rb D M w) (hr : raw.size ≤ 1048576) (hD : D.2 ≤ 1000000) (hs : SlOf Tok.enc Tok.sz w a l) (hl : l.length ≤ 1000) (hok : ∀ t ∈ l, t.ok) (hmay : k ≠ 0 → ∀ t ∈ l, t.may = true) (hna : ∀ i, i ∈ tokB a l → i ∉ M) :
    Calls Tryz.prog 12 #[.pointer (some ⟨rb, 0, none⟩), .int .u8 (k : Int), .slice a l.length c, .string raw, .bool last] w fun e w' => e = .returned (.tuple #[]) ∧ RfTo rb (blockF k l raw last D) M w w' := by
  have HI := Lib.hid h
  have HT := Lib.hid (And.intro hs (And.intro hl (And.intro hok (And.intro hmay hna))))
  have HR := Lib.hid (And.intro hr hD)
  have HM := Lib.hid h.lt
  clear h hs hl hok hmay hna hr hD
  rcases (show k = 0 ∨ k = 1 ∨ k = 2 by omega) with rfl | rfl | rfl
  · have e : blockF 0 l raw last D = storedF 17 last D raw := by simp [blockF]
    rw [e]
    clear e
    go_enter Tryz.func12, Tryz.ntmps12
    go_wp2_with fail
    refine (rstored_ok rb raw last D M w HI.out HR.out.1 (by have := HR.out.2; omega)).mono ?_
    rintro e w1 ⟨rfl, h1⟩
    have H1 := Lib.hid h1
    clear h1
    go_wp2_with fail
    refine bodyPost_end (v := .tuple #[]) (by simp [results, Tryz.results12, go_sem]) rfl ?_
    exact ⟨rfl, H1.out⟩
  · have e : blockF 1 l raw last D = puts (putP D (2 * 1 + last.toNat, 3)) (symsP fixLit fixDist (symsL l)) := by simp [blockF, blockP, puts_cons]
    rw [e]
    clear e
    go_enter Tryz.func12, Tryz.ntmps12
    go_wp2_with fail
    refine (rhead_ok rb 1 last D M w HI.out (by omega) (by have := HR.out.2; omega)).mono ?_
    rintro e w1 ⟨rfl, h1⟩
    have H1 := Lib.hid h1
    clear h1
    go_wp2_with fail
    refine (refFixed_ok _).mono ?_
    rintro e w4 ⟨g1, g2, rfl, hg1, hg2, hn1, hn2, f4⟩
    have H4 := Lib.hid (And.intro f4 (And.intro hn1 hn2))
    clear f4 hg1 hg2 hn1 hn2
    go_wp2_with fail
    obtain ⟨M1, k1, f1, n1⟩ := H1.out
    have hsy := rsymbols_ok rb a c l (some ⟨g1, 0, none⟩) (some ⟨g2, 0, none⟩) 288 30 fixLit fixDist _ M1 w4 ((HT.out.1.frU f1 HT.out.2.2.2.2).fr0 H4.out.1) HT.out.2.1 HT.out.2.2.1 (HT.out.2.2.2.1 (by omega))
      (sl_nrow H4.out.2.1) (sl_nrow H4.out.2.2) (fun x hx => by have := fixLit_le x hx; omega) (fun x hx => by have := fixDist_le x hx; omega) (.inr (by unfold fixLit; simp)) (by unfold fixDist; simp) fixLit_fine fixDist_fine (k1.to0 H4.out.1) (by simp only [putP]; have := HR.out.2; omega)
    rw [show fixLit.length = 288 by unfold fixLit; simp, show fixDist.length = 30 by unfold fixDist; simp] at hsy
    refine hsy.mono ?_
    rintro e w5 ⟨rfl, h5⟩
    have H5 := Lib.hid (RfTo.trans k1 f1 n1 (h5.after H4.out.1))
    clear h5 hsy k1 f1 n1
    go_wp2_with fail
    refine bodyPost_end (v := .tuple #[]) (by simp [results, Tryz.results12, go_sem]) rfl ?_
    exact ⟨rfl, H5.out⟩
  · have e : blockF 2 l raw last D = puts (puts (putP D (2 * 2 + last.toNat, 3)) (headP (bestLit l) (bestDist l))) (symsP (bestLit l) (bestDist l) (symsL l)) := by simp [blockF, blockP, puts_cons, puts_append]
    rw [e]
    clear e
    go_enter Tryz.func12, Tryz.ntmps12
    go_wp2_with fail
    refine (rhead_ok rb 2 last D M w HI.out (by omega) (by have := HR.out.2; omega)).mono ?_
    rintro e w1 ⟨rfl, h1⟩
    have H1 := Lib.hid h1
    clear h1
    go_wp2_with fail
    refine (refBest_new a c l w1 (HT.out.1.frU H1.out.fr HT.out.2.2.2.2) (by have := HT.out.2.1; omega) HT.out.2.2.1 (HT.out.2.2.2.1 (by omega))).mono ?_
    rintro e w3 ⟨g1, g2, rfl, hn1, hn2, f3, hg1, hg2⟩
    have H3 := Lib.hid (And.intro f3 (And.intro hn1 (And.intro hn2 (And.intro hg1 hg2))))
    clear f3 hg1 hg2 hn1 hn2
    go_wp2_with fail
    obtain ⟨V2, hV2⟩ : ∃ V2, w3.alloc (.cells #[.slice (some ⟨g1, 0, none⟩) 286 286, .slice (some ⟨g2, 0, none⟩) 30 30] 45) = V2 := ⟨_, rfl⟩
    have fV2 : Fr [] w3 V2 := by rw [← hV2]; exact Fr.alloc _ _ _
    have xV2 : V2.heap[w3.heap.size]? = some (.cells #[.slice (some ⟨g1, 0, none⟩) 286 286, .slice (some ⟨g2, 0, none⟩) 30 30] 45 (0, 0)) := by rw [← hV2]; exact alloc_last _ _
    rw [hV2]
    obtain ⟨M1, k1, f1, n1⟩ := H1.out
    have n1V : Nrow V2 g1 5 .u8 286 (bestF false 286 (symsL l)) := H3.out.2.1.to fV2 (by simp)
    have n2V : Nrow V2 g2 5 .u8 30 (bestF true 30 (symsL l)) := H3.out.2.2.1.to fV2 (by simp)
    have hM1 := k1.lt
    have hx3 := lt_of xV2
    have h13 := H3.out.1.size
    have HK := Lib.hid (And.intro k1 (And.intro f1 (And.intro n1 (And.intro (H3.out.1.trans fV2) (And.intro xV2 (And.intro n1V (And.intro n2V hM1)))))))
    clear k1 f1 n1 fV2 xV2 hV2 n1V n2V hM1
    have hdy := rdynamic_ok rb (some ⟨g1, 0, none⟩) (some ⟨g2, 0, none⟩) 286 30 (bestLit l) (bestDist l) (putP D (2 * 2 + last.toNat, 3)) M1 V2 (sl_nrow HK.out.2.2.2.2.2.1) (sl_nrow HK.out.2.2.2.2.2.2.1) (bestLit_le l) (bestDist_le l) (bestLit_len l) (bestDist_len l) (by omega) (by omega) (HK.out.1.to0 HK.out.2.2.2.1) (by simp only [putP]; have := HR.out.2; omega)
    rw [bestLit_len, bestDist_len] at hdy
    refine hdy.mono ?_
    rintro e w4 ⟨rfl, h4⟩
    have hnM : ∀ i, w1.heap.size ≤ i → i ∉ M1 := fun i hi h => by have := HK.out.2.2.2.2.2.2.2 _ h; omega
    have x4 := h4.fr.blk HK.out.2.2.2.2.1 (hnM _ h13)
    have c0 := cell_of x4 0
    have c1 := cell_of x4 1
    simp at c0 c1
    have H4 := Lib.hid (And.intro h4 (And.intro (HK.out.2.2.2.2.2.1.to h4.fr (hnM _ H3.out.2.2.2.1)) (HK.out.2.2.2.2.2.2.1.to h4.fr (hnM _ H3.out.2.2.2.2))))
    clear h4 x4 hdy hnM
    go_wp2_with fail
    obtain ⟨M4, k4, f4, n4⟩ := H4.out.1
    have na1 : ∀ i, i ∈ tokB a l → i ∉ M1 := fun i hi h => by
      rcases HK.out.2.2.1 _ h with h | h
      · exact HT.out.2.2.2.2 i hi h
      · have := HT.out.1.lt i hi; omega
    have hsl4 : SlOf Tok.enc Tok.sz w4 a l := ((HT.out.1.frU HK.out.2.1 HT.out.2.2.2.2).fr0 HK.out.2.2.2.1).frU f4 na1
    have hln : (puts (putP D (2 * 2 + last.toNat, 3)) (headP (bestLit l) (bestDist l))).2 ≤ 10000000 := by
      rw [puts_len, bits_head _ _ (bestLit_le l) (bestDist_le l)]
      have := headN_le (bestLit l) (bestDist l) (by rw [bestLit_len]; omega) (by rw [bestDist_len]; omega)
      have := HR.out.2
      simp only [putP]
      omega
    have hsy := rsymbols_ok rb a c l (some ⟨g1, 0, none⟩) (some ⟨g2, 0, none⟩) 286 30 (bestLit l) (bestDist l) _ M4 w4 hsl4 HT.out.2.1 HT.out.2.2.1 (HT.out.2.2.2.1 (by omega))
      (sl_nrow H4.out.2.1) (sl_nrow H4.out.2.2) (fun x hx => by have := bestLit_le l x hx; omega) (fun x hx => by have := bestDist_le l x hx; omega) (.inl (bestLit_len l)) (bestDist_len l) (bestLit_fine l) (bestDist_fine l) k4 hln
    rw [bestLit_len, bestDist_len] at hsy
    refine hsy.mono ?_
    rintro e w5 ⟨rfl, h5⟩
    have h41 := RfTo.trans k4 f4 n4 h5
    have H5 := Lib.hid (RfTo.trans HK.out.1 HK.out.2.1 HK.out.2.2.1 (h41.after HK.out.2.2.2.1))
    clear h41 h5 hsy hln hsl4 na1 k4 f4 n4
    go_wp2_with fail
    refine bodyPost_end (v := .tuple #[]) (by simp [results, Tryz.results12, go_sem]) rfl ?_
    exact ⟨rfl, H5.out⟩
end Go.Proofs.YtciejmlhdmjajaaGreat
namespace Go.Proofs.YtciejmlhdmjajaaGreat
open Go.RowKit
set_option linter.unusedVariables false
set_option linter.unusedSimpArgs false

theorem obits_to {ob b most n size : Nat} {D : Nat × Nat} {M : List Nat} {V W : World} (h : OutTo ob b most D M V W) (hm : most ≤ 1000000) (hz : size ≤ 56) (hn : n < 2 ^ size) :
    Calls Tryz.prog 43 #[.pointer (some ⟨ob, 0, none⟩), .int .u64 n, .int .i64 size] W fun e w' => e = .returned (.tuple #[]) ∧ OutTo ob b most (putP D (n, size)) M V w' := by
  obtain ⟨M1, k1, f1, n1⟩ := h
  exact (obits_ok ob b most n size D M1 W k1 hm hz hn).mono fun e w' ⟨h1, h2⟩ => ⟨h1, OutTo.trans k1 f1 n1 h2⟩
theorem obits_toI {ob b most n size : Nat} {x y : Int} {D : Nat × Nat} {M : List Nat} {V W : World} (h : OutTo ob b most D M V W) (hm : most ≤ 1000000) (hz : size ≤ 56) (hn : n < 2 ^ size) (hx : x = (n : Int)) (hy : y = (size : Int)) :
    Calls Tryz.prog 43 #[.pointer (some ⟨ob, 0, none⟩), .int .u64 x, .int .i64 y] W fun e w' => e = .returned (.tuple #[]) ∧ OutTo ob b most (putP D (n, size)) M V w' := by
  subst hx; subst hy; exact obits_to h hm hz hn
theorem ocode_to {ob b most n size : Nat} {D : Nat × Nat} {M : List Nat} {V W : World} (h : OutTo ob b most D M V W) (hm : most ≤ 1000000) (hz : size ≤ 32) (hn : n < 2 ^ size) :
    Calls Tryz.prog 46 #[.pointer (some ⟨ob, 0, none⟩), .agg #[.int .u32 (n : Int), .int .u8 (size : Int)]] W fun e w' => e = .returned (.tuple #[]) ∧ OutTo ob b most (putP D (n, size)) M V w' := by
  obtain ⟨M1, k1, f1, n1⟩ := h
  exact (ocode_ok ob b most n size D M1 W k1 hm hz hn).mono fun e w' ⟨h1, h2⟩ => ⟨h1, OutTo.trans k1 f1 n1 h2⟩
theorem OutTo.fr {ob b most : Nat} {D : Nat × Nat} {M : List Nat} {V W : World} (h : OutTo ob b most D M V W) : Fr M V W := by
  obtain ⟨_, _, h, _⟩ := h
  exact h
def headBox (na nb kl : Nat) (ao ar : Option Addr) (ag co cr n : Nat) : Obj := .cells #[.int .i64 (na : Int), .int .i64 (nb : Int), .int .i64 (kl : Int), .slice ao 19 co, .slice (some ⟨ag, 0, none⟩) 19 19, .slice ar n cr] 58 (0, 0)
set_option maxRecDepth 100000 in
set_option maxHeartbeats 3200000 in
theorem otold_ok (ob b most z : Nat) (lit dist : List Nat) (ao ar : Option Addr) (ag co cr : Nat) (D : Nat × Nat) (M : List Nat) (w : World) (h : OutI ob b most D M w) (hm : most ≤ 1000000) (hH : HeadM z lit dist ao ag ar w) (hz : ∀ i, i ∈ M → i < z)
    (h8 : ∀ x ∈ lit, x ≤ 15) (k8 : ∀ x ∈ dist, x ≤ 15) (hll : lit.length = 286) (hdl : dist.length = 30) (hco : 19 ≤ co) :
    Calls Tryz.prog 28 #[.pointer (some ⟨ob, 0, none⟩), .agg #[.int .i64 ((uptoL lit 257 : Nat) : Int), .int .i64 ((uptoL dist 1 : Nat) : Int), .int .i64 ((uptoL (ordL lit dist) 4 : Nat) : Int), .slice ao 19 co, .slice (some ⟨ag, 0, none⟩) 19 19, .slice ar (rsL lit dist).length cr]] w fun e w' => e = .returned (.tuple #[]) ∧ OutTo ob b most (puts D (headP lit dist)) M w w' := by
  have HH := Lib.hid (show headP lit dist = [(uptoL lit 257 - 257, 5), (uptoL dist 1 - 1, 5), (uptoL (ordL lit dist) 4 - 4, 4)] ++ (((ordL lit dist).take (uptoL (ordL lit dist) 4)).map (fun n => (n, 3)) ++ runsP (ownL lit dist) (rsL lit dist)) from rfl)
  have ha1 : 257 ≤ uptoL lit 257 := uptoD_ge lit 257 _ (by omega)
  have ha2 : uptoL lit 257 ≤ 286 := by rw [← hll]; exact uptoD_le lit 257 _
  have hb1 : 1 ≤ uptoL dist 1 := uptoD_ge dist 1 _ (by omega)
  have hb2 : uptoL dist 1 ≤ 30 := by rw [← hdl]; exact uptoD_le dist 1 _
  have hkl := kl_le lit dist
  have hrl := rsL_len lit dist (by omega) (by omega)
  have hrk : ∀ p ∈ rsL lit dist, RunOk p := packL_ok _ (allL_ok h8 k8)
  have hO7 := ordL_le lit dist
  have hln : (ordL lit dist).length = 19 := by unfold ordL; rw [List.length_map]; rfl
  have hown : ∀ x ∈ ownL lit dist, x < 256 := fun x hx => by
    obtain ⟨s, _, rfl⟩ := List.mem_map.1 hx
    have := own_le lit dist s
    omega
  have hof := ownL_fine lit dist
  have hol : (ownL lit dist).length = 19 := by unfold ownL; simp
  have hso := sl_nrow hH.own
  obtain ⟨ord, hord⟩ : ∃ x, ordL lit dist = x := ⟨_, rfl⟩
  obtain ⟨na, hna⟩ : ∃ x, uptoL lit 257 = x := ⟨_, rfl⟩
  obtain ⟨nb, hnb⟩ : ∃ x, uptoL dist 1 = x := ⟨_, rfl⟩
  obtain ⟨rs, hrs⟩ : ∃ x, rsL lit dist = x := ⟨_, rfl⟩
  obtain ⟨own, hown2⟩ : ∃ x, ownL lit dist = x := ⟨_, rfl⟩
  have hO := hH.ord
  have hR := hH.rs
  have zo := hH.zo
  have zg := hH.zg
  have zr := hH.zr
  rw [show (List.range 19).map (ownF lit dist) = own from hown2] at hso
  rw [hord] at hkl hO7 hln HH hO ⊢
  rw [hna] at ha1 ha2 HH ⊢
  rw [hnb] at hb1 hb2 HH ⊢
  rw [hrs] at hrl hrk HH hR ⊢
  rw [hown2] at hown hof hol HH
  obtain ⟨kl, hklq⟩ : ∃ x, uptoL ord 4 = x := ⟨_, rfl⟩
  rw [hklq] at hkl HH ⊢
  have hai : (na : Int) ≤ 286 := by omega
  have hai2 : 257 ≤ (na : Int) := by omega
  have hbi : (nb : Int) ≤ 30 := by omega
  have hbi2 : 1 ≤ (nb : Int) := by omega
  have hki : (kl : Int) ≤ 19 := by omega
  have hki2 : 4 ≤ (kl : Int) := by omega
  have hci : (19 : Int) ≤ (co : Int) := by omega
  have hMlt := h.lt
  obtain ⟨bo, oo, rfl, hbo, _⟩ := hO (by intro h; rw [h] at hln; simp at hln)
  have HB := Lib.hid (And.intro hO (And.intro hR (And.intro hso (And.intro hown (And.intro hof (And.intro hol (And.intro hO7 (And.intro hln hrk))))))))
  have HZ := Lib.hid (And.intro zo (And.intro zg (And.intro zr (And.intro hz hMlt))))
  have HL := Lib.hid hrl
  obtain ⟨V, hV⟩ : ∃ V, w.alloc (.cells #[.int .i64 (na : Int), .int .i64 (nb : Int), .int .i64 (kl : Int), .slice (some ⟨bo, oo, none⟩) 19 co, .slice (some ⟨ag, 0, none⟩) 19 19, .slice ar rs.length cr] 58) = V := ⟨_, rfl⟩
  have fV : Fr [] w V := by rw [← hV]; exact Fr.alloc _ _ _
  have xV : V.heap[w.heap.size]? = some (headBox na nb kl (some ⟨bo, oo, none⟩) ar ag co cr rs.length) := by rw [← hV]; exact alloc_last _ _
  have HV := Lib.hid (And.intro fV (And.intro xV (h.to0 fV).refl))
  have hV2 := Lib.hid hV
  clear hO hR hso hown hof hol hO7 hln hrk zo zg zr hz hMlt h hH hrs hna hnb hord hown2 hklq h8 k8 hll hdl ha1 ha2 hb1 hb2 hkl hrl fV xV hV hco
  go_enter Tryz.func28, Tryz.ntmps28
  go_wp2_with fail
  rw [hV2.out]
  refine (obits_toI (n := na - 257) (size := 5) HV.out.2.2 hm (by omega) (by omega) (by omega) rfl).mono ?_
  rintro e w1 ⟨rfl, h1⟩
  have H1 := Lib.hid h1
  have c0 := cell_of (h1.fr.blk HV.out.2.1 (fun hi => Nat.lt_irrefl _ (HZ.out.2.2.2.2 _ hi))) 0
  have c1 := cell_of (h1.fr.blk HV.out.2.1 (fun hi => Nat.lt_irrefl _ (HZ.out.2.2.2.2 _ hi))) 1
  simp [headBox] at c0 c1
  clear h1
  go_wp2_with fail
  refine (obits_toI (n := nb - 1) (size := 5) H1.out hm (by omega) (by omega) (by omega) rfl).mono ?_
  rintro e w2 ⟨rfl, h2⟩
  have H2 := Lib.hid h2
  have c2 := cell_of (h2.fr.blk HV.out.2.1 (fun hi => Nat.lt_irrefl _ (HZ.out.2.2.2.2 _ hi))) 2
  simp [headBox] at c2
  clear h2 c0 c1
  go_wp2_with fail
  refine (obits_toI (n := kl - 4) (size := 4) H2.out hm (by omega) (by omega) (by omega) rfl).mono ?_
  rintro e w3 ⟨rfl, h3⟩
  have H3 := Lib.hid h3
  have hX := h3.fr.blk HV.out.2.1 (fun hi => Nat.lt_irrefl _ (HZ.out.2.2.2.2 _ hi))
  have c2 := cell_of hX 2
  have c3 := cell_of hX 3
  simp [headBox] at c2 c3
  clear h3 hX
  go_wp2_with fail
  obtain ⟨D3, hD3⟩ : ∃ D3, putP (putP (putP D (na - 257, 5)) (nb - 1, 5)) (kl - 4, 4) = D3 := ⟨_, rfl⟩
  rw [hD3] at H3
  have HD3 := Lib.hid hD3
  clear hD3 H1 H2
  have hordle : ∀ x ∈ ord, x ≤ 7 := HB.out.2.2.2.2.2.2.1
  have hordl : ord.length = 19 := HB.out.2.2.2.2.2.2.2.1
  have HOL := Lib.hid (And.intro hordle hordl)
  clear hordle hordl
  go_loopw [36] (fun v36 wr => ∃ k : Nat, k ≤ kl ∧ v36 = .int .i64 (k : Int) ∧ OutTo ob b most (puts D3 ((ord.take k).map fun n => (n, 3))) M V wr) (fun v36 _ => kl - (intOf v36).toNat)
  case atStart => exact ⟨0, by omega, rfl, by simpa [puts] using H3.out⟩
  case round =>
    obtain ⟨k, hk, rfl, hT⟩ := hrel
    by_cases hlt : k < kl
    · have hki3 : (k : Int) < (kl : Int) := by omega
      obtain ⟨x, hx⟩ : ∃ x, ord[k]? = some x := ⟨ord[k]'(by have := HOL.out.2; omega), List.getElem?_eq_getElem _⟩
      have hx7 := HOL.out.1 x (List.mem_of_getElem? hx)
      have hsl : SlOf U8 1 wr (some ⟨bo, oo, none⟩) ord := HB.out.1.fr (HV.out.1.nil.trans hT.fr) fun a ha hi => by
        cases ha
        have h1 := HZ.out.1 _ rfl
        have h2 := HZ.out.2.2.2.1 _ hi
        simp only at h1 h2
        omega
      obtain ⟨b', o', he, hbl, hcell⟩ := hsl (by intro h; rw [h] at hx; simp at hx)
      cases he
      have cc := hcell k x hx 0 (.int .u8 (x : Int)) rfl
      rw [Nat.add_zero, Nat.mul_one] at cc
      have hxi : (x : Int) ≤ 7 := by omega
      have HT := Lib.hid hT
      have HX := Lib.hid (show (ord.take (k + 1)).map (fun n => (n, 3)) = (ord.take k).map (fun n => (n, 3)) ++ [(x, 3)] by rw [List.take_add_one, hx]; simp)
      clear hsl hcell hT hx
      go_wp2_with fail
      refine (obits_toI (n := x) (size := 3) HT.out hm (by omega) (by omega) (by rfl) rfl).mono ?_
      rintro e w4 ⟨rfl, h4⟩
      have H4 := Lib.hid h4
      clear h4
      go_wp2_with fail
      exact ⟨⟨k + 1, by omega, by go_num, by rw [HX.out, puts_append]; exact H4.out⟩, by simp [intOf]; omega⟩
    · have hke : k = kl := by omega
      subst hke
      have hX := hT.fr.blk HV.out.2.1 (fun hi => Nat.lt_irrefl _ (HZ.out.2.2.2.2 _ hi))
      have c4 := cell_of hX 4
      have c5 := cell_of hX 5
      simp [headBox] at c4 c5
      have HT := Lib.hid hT
      have hsow := HB.out.2.2.1.fr (HV.out.1.nil.trans hT.fr) fun a ha hi => by
        cases ha
        have h1 := HZ.out.2.1
        have h2 := HZ.out.2.2.2.1 _ hi
        simp only at h1 h2
        omega
      have hwr := hwrites_any (some ⟨ag, 0, none⟩) 19 own wr hsow (by have := HB.out.2.2.2.2.2.1; omega) HB.out.2.2.2.1 HB.out.2.2.2.2.1.1 HB.out.2.2.2.2.1.2
      rw [HB.out.2.2.2.2.2.1] at hwr
      have HWR := Lib.hid hwr
      clear hT hX hsow hwr
      go_wp2_with fail
      refine HWR.out.mono ?_
      rintro e w5 ⟨gw, rfl, hgw, hPw, f5⟩
      have hX := (HT.out.till f5).fr.blk HV.out.2.1 (fun hi => Nat.lt_irrefl _ (HZ.out.2.2.2.2 _ hi))
      have c5 := cell_of hX 5
      simp [headBox] at c5
      obtain ⟨M4, k4, f4, n4⟩ := HT.out
      have HT5 := Lib.hid (And.intro ((k4.to0 f5).refl) (And.intro hPw (And.intro hgw (And.intro k4.lt (And.intro n4 (And.intro (f5.outL f4 (fun i hi => by cases hi)) (k4.to0 f5)))))))
      clear k4 f4 n4
      clear hPw hgw f5 hX HWR
      have hrli : (rs.length : Int) ≤ 320 := by have := HL.out; omega
      go_wp2_with fail
      obtain ⟨D4, hD4⟩ : ∃ D4, puts D3 (List.map (fun n => (n, 3)) (List.take k ord)) = D4 := ⟨_, rfl⟩
      rw [hD4] at HT5
      have HD4 := Lib.hid hD4
      clear hD4
      go_loopw [54] (fun v54 wr => ∃ j : Nat, j ≤ rs.length ∧ v54 = .int .i64 (j : Int) ∧ OutTo ob b most (puts D4 (runsP own (rs.take j))) M4 w5 wr) (fun v54 _ => rs.length - (intOf v54).toNat)
      case atStart => exact ⟨0, by omega, rfl, by simpa [puts, runsP] using HT5.out.1⟩
      case round =>
        obtain ⟨j, hj, rfl, hT2⟩ := hrel
        by_cases hlt2 : j < rs.length
        · have hji : (j : Int) < (rs.length : Int) := by omega
          obtain ⟨p, hp⟩ : ∃ p, rs[j]? = some p := ⟨rs[j], List.getElem?_eq_getElem hlt2⟩
          have hpk := HB.out.2.2.2.2.2.2.2.2 p (List.mem_of_getElem? hp)
          have HP := Lib.hid (show runsP own (rs.take (j + 1)) = runsP own (rs.take j) ++ [codeW own p.1, (p.2, rbN p.1)] by unfold runsP; rw [List.take_add_one, hp, List.flatMap_append]; rfl)
          obtain ⟨p1, p2⟩ := p
          have hp1 : p1 ≤ 18 := hpk.1
          have hp2 : p2 < 2 ^ rbN p1 := hpk.2
          have fM : Fr M V wr := hT2.fr.outL HT5.out.2.2.2.2.2.1 HT5.out.2.2.2.2.1
          obtain ⟨bR, oR, rfl, hbl, hcell⟩ := (HB.out.2.1.fr (HV.out.1.nil.trans fM) fun a ha hi => by
            have h1 := HZ.out.2.2.1 _ ha
            have h2 := HZ.out.2.2.2.1 _ hi
            omega) (by intro h; rw [h] at hp; simp at hp)
          have c0 := hcell j (p1, p2) hp 0 (.int .u8 (p1 : Int)) rfl
          have c1 := hcell j (p1, p2) hp 1 (.int .u8 (p2 : Int)) rfl
          rw [Nat.add_zero] at c0
          rw [← Nat.add_assoc] at c1
          have hrb7 := rbN_le p1
          obtain ⟨rb, hrb⟩ : ∃ rb, rbN p1 = rb := ⟨_, rfl⟩
          have hRB := Lib.hid (fun W => runBits_ok p1 W hp1)
          rw [hrb] at hRB HP hrb7 hp2
          have hrbi : (rb : Int) ≤ 7 := by omega
          have hp1i : (p1 : Int) < 19 := by omega
          have hp2i : (p2 : Int) < 256 := by have : 2 ^ rb ≤ 2 ^ 7 := Nat.pow_le_pow_right (by decide) hrb7; omega
          obtain ⟨M6, k6, f6, n6⟩ := hT2
          have gP : Prow Cd 99 wr gw 19 (codeW own) := f6.blk HT5.out.2.1 (fun hi => by have h1 := HT5.out.2.2.2.1 _ hi; have h2 := HT5.out.2.2.1; omega)
          have HQ := Lib.hid (And.intro k6 (And.intro f6 (And.intro n6 (And.intro gP (And.intro hp2 k6.lt)))))
          clear hcell hp hpk hbl fM k6 f6 n6 gP hp2 hrb
          go_wp2_with fail
          refine (hRB.out _).mono ?_
          rintro e w6 ⟨rfl, f6⟩
          have fa : Fr [] wr w6 := (Fr.alloc _ _ _).trans f6
          have zb := f6.blk (alloc_last wr (.cells #[.int .u8 (p1 : Int), .int .u8 (p2 : Int)] 87)) (by simp)
          have b0 := cell_of zb 0
          have yP : Prow Cd 99 w6 gw 19 (codeW own) := fa.blk HQ.out.2.2.2.1 (by simp)
          have q0 := yP.cell (fun _ => rfl) p1 0 (by omega) (by omega)
          have q1 := yP.cell (fun _ => rfl) p1 1 (by omega) (by omega)
          simp [Cd] at q0 q1 b0
          have HZb := Lib.hid (And.intro zb fa)
          clear f6 fa zb yP hRB
          go_wp2_with fail
          refine (ocode_ok ob b most (codeW own p1).1 (codeW own p1).2 _ M6 _ (HQ.out.1.to0 HZb.out.2) hm (by have := codeW_15 HB.out.2.2.2.2.1.1 p1; omega) (codeW_lt own p1)).mono ?_
          rintro e w7 ⟨rfl, h7⟩
          have zb7 := h7.fr.blk HZb.out.1 (fun hi => Nat.lt_irrefl _ (HQ.out.2.2.2.2.2 _ hi))
          have b1 := cell_of zb7 1
          simp at b1
          have H7 := Lib.hid h7
          clear h7 zb7 q0 q1 b0
          go_wp2_with fail
          refine (obits_toI (n := p2) (size := rb) H7.out hm (by omega) HQ.out.2.2.2.2.1 (by rfl) rfl).mono ?_
          rintro e w8 ⟨rfl, h8⟩
          have H8 := Lib.hid (OutTo.trans HQ.out.1 HQ.out.2.1 HQ.out.2.2.1 (h8.after HZb.out.2))
          clear h8 b1
          go_wp2_with fail
          exact ⟨⟨j + 1, by omega, by go_num, by rw [HP.out, puts_append]; exact H8.out⟩, by simp [intOf]; omega⟩
        · have hje : j = rs.length := by omega
          subst hje
          have HE := Lib.hid ((OutTo.trans HT5.out.2.2.2.2.2.2 HT5.out.2.2.2.2.2.1 HT5.out.2.2.2.2.1 hT2).after HV.out.1)
          clear hT2
          go_wp2_with fail
          refine bodyPost_end (v := .tuple #[]) (by simp [results, Tryz.results28, go_sem]) rfl ?_
          refine ⟨rfl, ?_⟩
          have h9 := HE.out
          rw [List.take_of_length_le (Nat.le_refl _), ← HD4.out, ← HD3.out] at h9
          rw [HH.out, puts_append, puts_append]
          exact h9
end Go.Proofs.YtciejmlhdmjajaaGreat
namespace Go.Proofs.YtciejmlhdmjajaaGreat
open Go.RowKit
set_option linter.unusedVariables false
set_option linter.unusedSimpArgs false

set_option maxRecDepth 100000 in
set_option maxHeartbeats 3200000 in
theorem works13 (w : World) : Calls Tryz.prog 5 #[] w fun e w' => e = .returned (.bool true) ∧ Fr [] w w' := by
  have hS1 : Hid (∀ W, Calls Tryz.prog 8 #[.int .u8 1, .slice none 0 0, .string ByteArray.empty, .int .i64 0] W fun e w' => e = .returned (.tuple #[.int .i64 10, .int .i64 0]) ∧ Fr [] W w') := Lib.hid fun W => by
    have h := size_fixed none 0 [] ByteArray.empty 0 W (by omega) (by decide) (fun h => absurd rfl h) (by decide) (by simp) (by simp)
    have e : takesL fixLit fixDist (symsL []) = 7 := by decide +kernel
    rw [e] at h
    exact h
  have hS2 : Hid (∀ W, Calls Tryz.prog 8 #[.int .u8 0, .slice none 0 0, .string ⟨#[97, 98, 99]⟩, .int .i64 0] W fun e w' => e = .returned (.tuple #[.int .i64 64, .int .i64 0]) ∧ Fr [] W w') := Lib.hid fun W => by
    have h := size_stored none 0 [] ⟨#[97, 98, 99]⟩ 0 W (by omega) (by decide)
    exact h
  go_enter Tryz.func5, Tryz.ntmps5
  go_wp2_with fail
  refine (hS1.out _).mono ?_
  rintro e w1 ⟨rfl, f1⟩
  have F1 := Lib.hid f1
  clear f1
  go_wp2_with fail
  refine (hS2.out _).mono ?_
  rintro e w2 ⟨rfl, f2⟩
  have F2 := Lib.hid (F1.out.trans f2)
  clear f2
  go_wp2_with fail
  refine (order_ok _).mono ?_
  rintro e w3 ⟨rfl, ho, f3⟩
  have F3 := Lib.hid (And.intro (F2.out.trans f3) ho)
  clear f3 ho
  go_wp2_with fail
  refine (fixed_ok _).mono ?_
  rintro e w4 ⟨g1, g2, rfl, hg1, hg2, hn1, hn2, f4⟩
  have ho := f4.blk F3.out.2 (by simp)
  have F4 := Lib.hid (F3.out.1.trans f4)
  have o0 := cell_of ho 0
  have c200 := hn1.cell 200 (by omega)
  have e200 : fixF 200 = 9 := by decide
  rw [e200] at c200
  have l0 := lt_of ho
  have l1 := lt_of hn1
  have e0 : orderC[0]? = some (.int .u8 16) := rfl
  rw [e0] at o0
  clear ho f4 hn1 hn2 hg1 hg2 e0 e200
  go_wp2_with fail
  go_ret
  exact ⟨rfl, F4.out.trans (Fr.alloc _ _ _)⟩
end Go.Proofs.YtciejmlhdmjajaaGreat
namespace Go.Proofs.YtciejmlhdmjajaaGreat
open Go.RowKit
set_option linter.unusedVariables false
set_option linter.unusedSimpArgs false

theorem stored_turn (a n : Nat) : storedN (a + 8) n = storedN a n ∧ (a + storedN a n) % 8 = 0 := by unfold storedN; omega
theorem stored_near (a b n : Nat) : storedN a n ≤ storedN b n + 7 := by unfold storedN; omega
theorem stored_le (a n : Nat) (h : n ≤ 1048576) : storedN a n ≤ 10000000 := by unfold storedN; omega
/-- Size at the three kinds, wherever. -/
theorem sizes_any (a : Option Addr) (c : Nat) (l : List Tok) (raw : ByteArray) (w : World) (hraw : raw.size ≤ 1048576) (hs : SlOf Tok.enc Tok.sz w a l) (hl : l.length ≤ 1000000) (hok : ∀ t ∈ l, t.ok) (hmay : ∀ t ∈ l, t.may = true) (k : Nat) (hk : k ≤ 2) (at_ : Nat) (hat : at_ ≤ 1000000000) :
    Calls Tryz.prog 8 #[.int .u8 (k : Int), .slice a l.length c, .string raw, .int .i64 (at_ : Int)] w fun e w' => e = .returned (.tuple #[.int .i64 ((sizeN k l raw.size at_ : Nat) : Int), .int .i64 0]) ∧ Fr [] w w' := by
  rcases (show k = 0 ∨ k = 1 ∨ k = 2 by omega) with rfl | rfl | rfl
  · exact size_stored a c l raw at_ w hat hraw
  · exact size_fixed a c l raw at_ w hat hraw hs hl hok hmay
  · exact size_dyn a c l raw at_ w hat hraw hs hl hok hmay
theorem sizeN_le (k : Nat) (l : List Tok) (n at_ : Nat) (hl : l.length ≤ 1000000) (hok : ∀ t ∈ l, t.ok) (hmay : ∀ t ∈ l, t.may = true) (hn : n ≤ 1048576) : sizeN k l n at_ ≤ 1000000000 := by
  unfold sizeN
  have hso := symsL_ok hmay fun t ht => (hok t ht).1
  have h0 := symsL_len l
  split
  · have := stored_le at_ n hn; omega
  · split
    · have := takesL_le fixLit fixDist (fun x hx => by have := fixLit_le x hx; omega) (fun x hx => by have := fixDist_le x hx; omega) (symsL l) hso; omega
    · have := takesL_le (bestLit l) (bestDist l) (fun x hx => by have := bestLit_le l x hx; omega) (fun x hx => by have := bestDist_le l x hx; omega) (symsL l) hso
      have := headN_le (bestLit l) (bestDist l) (by rw [bestLit_len]; omega) (by rw [bestDist_len]; omega)
      omega
end Go.Proofs.YtciejmlhdmjajaaGreat
namespace Go.Proofs.YtciejmlhdmjajaaGreat
open Go.RowKit
set_option linter.unusedVariables false
set_option linter.unusedSimpArgs false

theorem write_nil (k : Int) (a : Option Addr) (c n : Nat) (raw : ByteArray) (last : Bool) (w : World) :
    Calls Tryz.prog 9 #[.pointer none, .int .u8 k, .slice a n c, .string raw, .bool last] w fun e w' => e = .returned (.int .i64 1) ∧ Fr [] w w' := by
  go_enter Tryz.func9, Tryz.ntmps9
  go_wp2_with fail
  go_ret
  exact ⟨rfl, Fr.refl _ _⟩
theorem SlOf.frT {α : Type} {enc : α → List Value} {sz : Nat} {w w' : World} {a0 : Option Addr} {xs : List α} {L : List Nat} (h : SlOf enc sz w a0 xs) (hf : Fr L w w') (hL : ∀ i, i ∈ tokB a0 xs → i ∉ L) : SlOf enc sz w' a0 xs := h.kp fun k hk => hf.block k (h.lt k hk) (hL k hk)
/-- What Write does. -/
def Written (b most : Nat) (v : Value) (T : Nat × Nat) (w : World) (e : Ending) (w' : World) : Prop :=
  ∃ v' N' L', ∃ E : Int, e = .returned (.int .i64 E) ∧ Wr w' b v' N' L' most ∧ Fr (wfp b v) w w' ∧ (∀ i, i ∈ wfp b v' → i ∈ wfp b v ∨ w.heap.size ≤ i) ∧ (roomy T most = true ∧ E = 0 ∧ N' = T.1 ∧ L' = T.2 ∨ roomy T most = false ∧ E = 4)
/-- The end of Write. -/
theorem OutTo.written {ob b most : Nat} {v : Value} {T : Nat × Nat} {w W W' : World} (h : OutTo ob b most T (ob :: wfp b v) W W') (f : Fr [] w W) (hob : w.heap.size ≤ ob) :
    ∃ E : Int, W'.cell? ⟨ob, 1, none⟩ = some (.int .i64 E) ∧ Written b most v T w (.returned (.int .i64 E)) W' := by
  obtain ⟨M, k, f1, n1⟩ := h
  obtain ⟨v', N', L', E, rfl, hw, hn, hc, hd⟩ := k.get
  have c1 := cell_of hc 1
  refine ⟨E, by simpa [outO] using c1, v', N', L', E, rfl, hw, f1.outL f.nil ?_, ?_, hd⟩
  · intro i hi
    rcases List.mem_cons.1 hi with rfl | hi
    · exact .inr hob
    · exact .inl hi
  · intro i hi
    rcases n1 i (List.mem_cons_of_mem _ hi) with h | h
    · rcases List.mem_cons.1 h with rfl | h
      · exact absurd hi hn
      · exact .inl h
    · exact .inr (Nat.le_trans f.size h)
theorem Wr.start {w W : World} {b : Nat} {v : Value} {N L most : Nat} {ob : Nat} (hw : Wr w b v N L most) (f : Fr [] w W) (hob : W.heap[ob]? = some (outO b 0)) (ho : w.heap.size ≤ ob) : OutI ob b most (N, L) (ob :: wfp b v) W :=
  ⟨v, N, L, rfl, hw.to f (by simp), fun hi => by have := hw.st.lt _ hi; omega, .inl ⟨by unfold roomy; have := hw.rm; simpa using this, hob, rfl, rfl⟩⟩
set_option maxRecDepth 100000 in
set_option maxHeartbeats 3200000 in
theorem write_stored (b most : Nat) (v : Value) (N L : Nat) (a : Option Addr) (c : Nat) (l : List Tok) (raw : ByteArray) (last : Bool) (w : World) (hw : Wr w b v N L most) (hm : most ≤ 1000000) (hraw : raw.size ≤ 1048576) :
    Calls Tryz.prog 9 #[.pointer (some ⟨b, 0, none⟩), .int .u8 0, .slice a l.length c, .string raw, .bool last] w (Written b most v (blockF 0 l raw last (N, L)) w) := by
  have hrm := hw.rm
  have HW := Lib.hid hw
  have HS := Lib.hid (fun W => size_stored a c l raw L W (by omega) hraw)
  have HR := Lib.hid (And.intro hraw (show L ≤ 1000000000 by omega))
  clear hw hraw hrm
  go_enter Tryz.func9, Tryz.ntmps9
  go_wp2_with fail
  refine (wlen_any b v N L most w HW.out HR.out.2).mono ?_
  rintro e w1 ⟨rfl, n1, rfl⟩
  have hLi : (L : Int) ≤ 1000000000 := by have := HR.out.2; omega
  go_wp2_with fail
  refine (HS.out _).mono ?_
  rintro e w2 ⟨rfl, f2⟩
  have F2 := Lib.hid ((Fr.drewN [] w n1).trans f2)
  clear f2
  go_wp2_with fail
  obtain ⟨V, hV⟩ : ∃ V, w2.alloc (.cells #[.pointer (some ⟨b, 0, none⟩), .int .i64 0] 62) = V := ⟨_, rfl⟩
  have fV : Fr [] w V := by rw [← hV]; exact F2.out.trans (Fr.alloc _ _ _)
  have hob : V.heap[w2.heap.size]? = some (outO b 0) := by rw [← hV]; exact alloc_last _ _
  have HI := Lib.hid (HW.out.start fV hob F2.out.size)
  have FV := Lib.hid fV
  rw [hV]
  clear fV hob hV
  refine (ostored_ok w2.heap.size b most raw last (N, L) _ V HI.out hm HR.out.1).mono ?_
  rintro e w3 ⟨rfl, h3⟩
  obtain ⟨E, hc, hwr⟩ := h3.written FV.out F2.out.size
  have HE := Lib.hid hwr
  clear h3 hwr
  go_wp2_with fail
  go_ret
  exact HE.out
set_option maxRecDepth 100000 in
set_option maxHeartbeats 3200000 in
theorem write_fixed (b most : Nat) (v : Value) (N L : Nat) (a : Option Addr) (c : Nat) (l : List Tok) (raw : ByteArray) (last : Bool) (w : World) (hw : Wr w b v N L most) (hm : most ≤ 1000000) (hraw : raw.size ≤ 1048576)
    (hs : SlOf Tok.enc Tok.sz w a l) (hl : l.length ≤ 1000000) (hok : ∀ t ∈ l, t.ok) (hmay : ∀ t ∈ l, t.may = true) (hna : ∀ i, i ∈ tokB a l → i ∉ wfp b v) :
    Calls Tryz.prog 9 #[.pointer (some ⟨b, 0, none⟩), .int .u8 1, .slice a l.length c, .string raw, .bool last] w (Written b most v (blockF 1 l raw last (N, L)) w) := by
  have hrm := hw.rm
  have HW := Lib.hid hw
  have HS := Lib.hid (fun W (f : Fr [] w W) => size_fixed a c l raw L W (by omega) hraw (hs.fr f (by simp)) hl hok hmay)
  have HR := Lib.hid (And.intro hraw (show L ≤ 1000000000 by omega))
  have HT := Lib.hid (And.intro hs (And.intro hl (And.intro hok (And.intro hmay (And.intro hna hs.lt)))))
  obtain ⟨S, hS⟩ : ∃ S, 3 + takesL fixLit fixDist (symsL l) = S := ⟨_, rfl⟩
  rw [hS] at HS
  have hSi : (S : Int) ≤ 1000000000 := by
    have := sizeN_le 1 l 0 0 hl hok hmay (by omega)
    unfold sizeN at this
    simp only [Nat.one_ne_zero, if_false, if_true] at this
    omega
  clear hw hraw hrm hs hl hok hmay hna hS
  go_enter Tryz.func9, Tryz.ntmps9
  go_wp2_with fail
  refine (wlen_any b v N L most w HW.out HR.out.2).mono ?_
  rintro e w1 ⟨rfl, n1, rfl⟩
  have hLi : (L : Int) ≤ 1000000000 := by have := HR.out.2; omega
  go_wp2_with fail
  refine (HS.out _ (Fr.drewN _ _ _)).mono ?_
  rintro e w2 ⟨rfl, f2⟩
  have F2 := Lib.hid ((Fr.drewN [] w n1).trans f2)
  clear f2
  go_wp2_with fail
  obtain ⟨V, hV⟩ : ∃ V, w2.alloc (.cells #[.pointer (some ⟨b, 0, none⟩), .int .i64 0] 62) = V := ⟨_, rfl⟩
  have fV : Fr [] w V := by rw [← hV]; exact F2.out.trans (Fr.alloc _ _ _)
  have hob : V.heap[w2.heap.size]? = some (outO b 0) := by rw [← hV]; exact alloc_last _ _
  have HI := Lib.hid (HW.out.start fV hob F2.out.size)
  have FV := Lib.hid fV
  rw [hV]
  clear fV hob hV
  refine (obegin_ok w2.heap.size b most 1 last (N, L) _ V HI.out hm (by omega)).mono ?_
  rintro e w3 ⟨rfl, h3⟩
  have H3 := Lib.hid h3
  clear h3
  go_wp2_with fail
  refine (fixed_ok _).mono ?_
  rintro e w4 ⟨g1, g2, rfl, hg1, hg2, hn1, hn2, f4⟩
  have H4 := Lib.hid (And.intro f4 (And.intro hg1 (And.intro hg2 (And.intro hn1 hn2))))
  clear f4 hg1 hg2 hn1 hn2
  go_wp2_with fail
  obtain ⟨M3, k3, f3, n3⟩ := H3.out
  have hsy := osymbols_in w2.heap.size b most a c l (some ⟨g1, 0, none⟩) (some ⟨g2, 0, none⟩) 288 30 fixLit fixDist (putP (N, L) (2 * 1 + last.toNat, 3)) M3 w4
    (HT.out.1.frT ((FV.out.nil.trans f3).trans H4.out.1.nil) (fun p hp hi => by
      rcases List.mem_cons.1 hi with h | h
      · have := HT.out.2.2.2.2.2 p hp; have := F2.out.size; omega
      · exact HT.out.2.2.2.2.1 p hp h)) HT.out.2.1 HT.out.2.2.1 HT.out.2.2.2.1
    (sl_nrow H4.out.2.2.2.1) (sl_nrow H4.out.2.2.2.2) (fun x hx => by have := fixLit_le x hx; omega) (fun x hx => by have := fixDist_le x hx; omega) (.inr (by unfold fixLit; simp)) (by unfold fixDist; simp) fixLit_fine fixDist_fine (k3.to0 H4.out.1) hm
    (fun p hp hi => by
      rcases n3 _ hi with h | h
      · rcases List.mem_cons.1 h with h | h
        · have := HT.out.2.2.2.2.2 p hp; have := F2.out.size; omega
        · exact HT.out.2.2.2.2.1 p hp h
      · have := HT.out.2.2.2.2.2 p hp; have := FV.out.size; omega)
  rw [show fixLit.length = 288 by unfold fixLit; simp, show fixDist.length = 30 by unfold fixDist; simp] at hsy
  refine (callsIn_wide.1 hsy).mono ?_
  rintro e w5 ⟨rfl, h5⟩
  obtain ⟨E, hc, hwr⟩ := (OutTo.trans k3 f3 n3 (h5.after H4.out.1)).written FV.out F2.out.size
  have HE := Lib.hid hwr
  clear h5 hwr hsy k3 f3 n3
  go_wp2_with fail
  go_ret
  have h9 := HE.out
  rw [← puts_cons] at h9
  exact h9
set_option maxRecDepth 100000 in
set_option maxHeartbeats 3200000 in
theorem write_dyn (b most : Nat) (v : Value) (N L : Nat) (a : Option Addr) (c : Nat) (l : List Tok) (raw : ByteArray) (last : Bool) (w : World) (hw : Wr w b v N L most) (hm : most ≤ 1000000) (hraw : raw.size ≤ 1048576)
    (hs : SlOf Tok.enc Tok.sz w a l) (hl : l.length ≤ 1000000) (hok : ∀ t ∈ l, t.ok) (hmay : ∀ t ∈ l, t.may = true) (hna : ∀ i, i ∈ tokB a l → i ∉ wfp b v) :
    Calls Tryz.prog 9 #[.pointer (some ⟨b, 0, none⟩), .int .u8 2, .slice a l.length c, .string raw, .bool last] w (Written b most v (blockF 2 l raw last (N, L)) w) := by
  have hrm := hw.rm
  have HW := Lib.hid hw
  have HS := Lib.hid (fun W (f : Fr [] w W) => size_dyn a c l raw L W (by omega) hraw (hs.fr f (by simp)) hl hok hmay)
  have HR := Lib.hid (And.intro hraw (show L ≤ 1000000000 by omega))
  have HT := Lib.hid (And.intro hs (And.intro hl (And.intro hok (And.intro hmay (And.intro hna hs.lt)))))
  obtain ⟨S, hS⟩ : ∃ S, 3 + headN (bestLit l) (bestDist l) + takesL (bestLit l) (bestDist l) (symsL l) = S := ⟨_, rfl⟩
  rw [hS] at HS
  have hSi : (S : Int) ≤ 1000000000 := by
    have := sizeN_le 2 l 0 0 hl hok hmay (by omega)
    unfold sizeN at this
    simp only [show ¬ (2 = 0) by omega, show ¬ (2 = 1) by omega, if_false] at this
    omega
  clear hw hraw hrm hs hl hok hmay hna hS
  go_enter Tryz.func9, Tryz.ntmps9
  go_wp2_with fail
  refine (wlen_any b v N L most w HW.out HR.out.2).mono ?_
  rintro e w1 ⟨rfl, n1, rfl⟩
  have hLi : (L : Int) ≤ 1000000000 := by have := HR.out.2; omega
  go_wp2_with fail
  refine (HS.out _ (Fr.drewN _ _ _)).mono ?_
  rintro e w2 ⟨rfl, f2⟩
  have F2 := Lib.hid ((Fr.drewN [] w n1).trans f2)
  clear f2
  go_wp2_with fail
  obtain ⟨V, hV⟩ : ∃ V, w2.alloc (.cells #[.pointer (some ⟨b, 0, none⟩), .int .i64 0] 62) = V := ⟨_, rfl⟩
  have fV : Fr [] w V := by rw [← hV]; exact F2.out.trans (Fr.alloc _ _ _)
  have hob : V.heap[w2.heap.size]? = some (outO b 0) := by rw [← hV]; exact alloc_last _ _
  have HI := Lib.hid (HW.out.start fV hob F2.out.size)
  have FV := Lib.hid fV
  have hzV := lt_of hob
  rw [hV]
  clear fV hob hV
  refine (best_ok a c l V (HT.out.1.fr0 FV.out) HT.out.2.1 HT.out.2.2.1 HT.out.2.2.2.1).mono ?_
  rintro e w3 ⟨g1, g2, rfl, hg1, hg2, hn1, hn2, f3⟩
  have H3 := Lib.hid (And.intro f3 (And.intro hg1 (And.intro hg2 (And.intro hn1 hn2))))
  clear f3 hg1 hg2 hn1 hn2
  go_wp2_with fail
  obtain ⟨V2, hV2⟩ : ∃ V2, w3.alloc (.cells #[.slice (some ⟨g1, 0, none⟩) 286 286, .slice (some ⟨g2, 0, none⟩) 30 30] 45) = V2 := ⟨_, rfl⟩
  have fV2 : Fr [] w3 V2 := by rw [← hV2]; exact Fr.alloc _ _ _
  have xV2 : V2.heap[w3.heap.size]? = some (.cells #[.slice (some ⟨g1, 0, none⟩) 286 286, .slice (some ⟨g2, 0, none⟩) 30 30] 45 (0, 0)) := by rw [← hV2]; exact alloc_last _ _
  have H2 := Lib.hid (And.intro (H3.out.1.trans fV2) (And.intro (fV2.blk (show w3.heap[g1]? = _ from H3.out.2.2.2.1) (by simp)) (And.intro (fV2.blk (show w3.heap[g2]? = _ from H3.out.2.2.2.2) (by simp)) xV2)))
  rw [hV2]
  clear fV2 xV2 hV2
  have HI2 := Lib.hid (HI.out.to0 H2.out.1)
  refine (obegin_ok w2.heap.size b most 2 last (N, L) _ V2 HI2.out hm (by omega)).mono ?_
  rintro e w4 ⟨rfl, h4⟩
  have hv3 := H3.out.1.size
  have hcM : ∀ i, V.heap.size ≤ i → i ∉ w2.heap.size :: wfp b v := fun i hi h => by have := HI.out.lt _ h; omega
  have HcM := Lib.hid hcM
  have x4 := h4.fr.blk H2.out.2.2.2 (hcM _ hv3)
  have c0 := cell_of x4 0
  have c1 := cell_of x4 1
  simp at c0 c1
  have H4 := Lib.hid (And.intro h4 (And.intro x4 (And.intro (h4.fr.blk H2.out.2.1 (hcM _ H3.out.2.1)) (h4.fr.blk H2.out.2.2.1 (hcM _ H3.out.2.2.1)))))
  clear h4 x4 hcM hv3
  go_wp2_with fail
  have hg1V : g1 < V2.heap.size := lt_of H2.out.2.1
  have hg2V : g2 < V2.heap.size := lt_of H2.out.2.2.1
  have hcV : w3.heap.size < V2.heap.size := lt_of H2.out.2.2.2
  obtain ⟨M4, k4, f4, n4⟩ := H4.out.1
  have hM4 : ∀ i, V.heap.size ≤ i → i < V2.heap.size → i ∉ M4 := fun i h1 h2 h3 => by
    rcases n4 i h3 with h | h
    · exact HcM.out i h1 h
    · omega
  have hv3 := H3.out.1.size
  have fa4 : Fr (w2.heap.size :: wfp b v) w w4 := (FV.out.trans H2.out.1).nil.trans f4
  have HK4 := Lib.hid (And.intro k4 (And.intro f4 (And.intro n4 (And.intro hM4 (And.intro hv3 fa4)))))
  clear k4 f4 n4 hM4 hv3 fa4
  have hhd := heads_ok (some ⟨g1, 0, none⟩) (some ⟨g2, 0, none⟩) 286 30 (bestLit l) (bestDist l) w4 (sl_nrow H4.out.2.2.1) (sl_nrow H4.out.2.2.2) (bestLit_le l) (bestDist_le l) (bestLit_len l) (bestDist_len l) (by omega) (by omega)
  rw [bestLit_len, bestDist_len] at hhd
  refine hhd.mono ?_
  rintro e w5 ⟨ao, co, ag, ar, cr, rfl, hHM, f5, hco⟩
  have H5 := Lib.hid (And.intro f5 (And.intro hHM hco))
  clear f5 hHM hco hhd
  go_wp2_with fail
  refine (otold_ok w2.heap.size b most w4.heap.size (bestLit l) (bestDist l) ao ar ag co cr _ M4 w5 (HK4.out.1.to0 H5.out.1) hm H5.out.2.1 HK4.out.1.lt (bestLit_le l) (bestDist_le l) (bestLit_len l) (bestDist_len l) H5.out.2.2).mono ?_
  rintro e w6 ⟨rfl, h6⟩
  have F6 : Fr M4 w4 w6 := H5.out.1.nil.trans h6.fr
  have x6 := F6.blk H4.out.2.1 (HK4.out.2.2.2.1 _ HK4.out.2.2.2.2.1 hcV)
  have c0 := cell_of x6 0
  have c1 := cell_of x6 1
  simp at c0 c1
  have H6 := Lib.hid (And.intro h6 (And.intro (F6.blk H4.out.2.2.1 (HK4.out.2.2.2.1 _ H3.out.2.1 hg1V)) (And.intro (F6.blk H4.out.2.2.2 (HK4.out.2.2.2.1 _ H3.out.2.2.1 hg2V)) F6)))
  clear h6 F6 x6
  go_wp2_with fail
  obtain ⟨M6, k6, f6, n6⟩ := H6.out.1
  have hw0 : w.heap.size ≤ w2.heap.size := F2.out.size
  have hw1 := FV.out.size
  have hw2 := H2.out.1.size
  have hw3 := HK4.out.2.1.size
  have hw4 := H5.out.1.size
  have na0 : ∀ p, p ∈ tokB a l → p ∉ w2.heap.size :: wfp b v := fun p hp hi => by
    rcases List.mem_cons.1 hi with h | h
    · have := HT.out.2.2.2.2.2 p hp; omega
    · exact HT.out.2.2.2.2.1 p hp h
  have na4 : ∀ p, p ∈ tokB a l → p ∉ M4 := fun p hp hi => by
    rcases HK4.out.2.2.1 _ hi with h | h
    · exact na0 p hp h
    · have := HT.out.2.2.2.2.2 p hp; omega
  have na6 : ∀ p, p ∈ tokB a l → p ∉ M6 := fun p hp hi => by
    rcases n6 _ hi with h | h
    · exact na4 p hp h
    · have := HT.out.2.2.2.2.2 p hp; omega
  have hsl6 : SlOf Tok.enc Tok.sz w6 a l := (HT.out.1.frT HK4.out.2.2.2.2.2 na0).frT H6.out.2.2.2 na4
  have hsy := osymbols_in w2.heap.size b most a c l (some ⟨g1, 0, none⟩) (some ⟨g2, 0, none⟩) 286 30 (bestLit l) (bestDist l) _ M6 w6
    hsl6 HT.out.2.1 HT.out.2.2.1 HT.out.2.2.2.1
    (sl_nrow H6.out.2.1) (sl_nrow H6.out.2.2.1) (fun x hx => by have := bestLit_le l x hx; omega) (fun x hx => by have := bestDist_le l x hx; omega) (.inl (bestLit_len l)) (bestDist_len l) (bestLit_fine l) (bestDist_fine l) k6 hm na6
  rw [bestLit_len, bestDist_len] at hsy
  refine (callsIn_wide.1 hsy).mono ?_
  rintro e w7 ⟨rfl, h7⟩
  have h64 := OutTo.trans k6 f6 n6 h7
  have h0 := (OutTo.trans HK4.out.1 HK4.out.2.1 HK4.out.2.2.1 (h64.after H5.out.1)).after H2.out.1
  obtain ⟨E, hc, hwr⟩ := h0.written FV.out F2.out.size
  have HE := Lib.hid hwr
  clear h0 h64 h7 hwr hsy k6 f6 n6 hsl6 na6 na4 na0
  go_wp2_with fail
  go_ret
  have h9 := HE.out
  rw [← puts_append, ← puts_cons] at h9
  exact h9
/-- Write at the three kinds. -/
theorem write_any (b most : Nat) (v : Value) (N L : Nat) (k : Nat) (hk : k ≤ 2) (a : Option Addr) (c : Nat) (l : List Tok) (raw : ByteArray) (last : Bool) (w : World) (hw : Wr w b v N L most) (hm : most ≤ 1000000) (hraw : raw.size ≤ 1048576)
    (hs : SlOf Tok.enc Tok.sz w a l) (hl : l.length ≤ 1000000) (hok : ∀ t ∈ l, t.ok) (hmay : ∀ t ∈ l, t.may = true) (hna : ∀ i, i ∈ tokB a l → i ∉ wfp b v) :
    Calls Tryz.prog 9 #[.pointer (some ⟨b, 0, none⟩), .int .u8 (k : Int), .slice a l.length c, .string raw, .bool last] w (Written b most v (blockF k l raw last (N, L)) w) := by
  rcases (show k = 0 ∨ k = 1 ∨ k = 2 by omega) with rfl | rfl | rfl
  · exact write_stored b most v N L a c l raw last w hw hm hraw
  · exact write_fixed b most v N L a c l raw last w hw hm hraw hs hl hok hmay hna
  · exact write_dyn b most v N L a c l raw last w hw hm hraw hs hl hok hmay hna
end Go.Proofs.YtciejmlhdmjajaaGreat
namespace Go.Proofs.YtciejmlhdmjajaaGreat
open Go.RowKit
set_option linter.unusedVariables false
set_option linter.unusedSimpArgs false

def badK (k : Nat) (l : List Tok) : Prop := 2 < k ∨ (k ≠ 0 ∧ l.all Tok.may = false)
set_option maxRecDepth 100000 in
set_option maxHeartbeats 1600000 in
theorem size_badK (k : Nat) (a : Option Addr) (c : Nat) (l : List Tok) (raw : ByteArray) (at_ : Nat) (w : World) (hk : k ≤ 255) (hat : at_ ≤ 1000000000) (hs : SlOf Tok.enc Tok.sz w a l) (hl : l.length ≤ 1000000) (hok : ∀ t ∈ l, t.ok) (hb : badK k l) :
    Calls Tryz.prog 8 #[.int .u8 (k : Int), .slice a l.length c, .string raw, .int .i64 (at_ : Int)] w fun e w' => e = .returned (.tuple #[.int .i64 0, .int .i64 2]) ∧ Fr [] w w' := by
  have h1 : (at_ : Int) ≤ 1000000000 := by omega
  have hki : (k : Int) ≤ 255 := by omega
  by_cases h2 : 2 < k
  · have h2i : 2 < (k : Int) := by omega
    clear hs hl hok hb hat
    go_enter Tryz.func8, Tryz.ntmps8
    go_wp2_with fail
    go_ret2
    exact ⟨rfl, Fr.refl _ _⟩
  · have h0 : k ≠ 0 ∧ l.all Tok.may = false := by rcases hb with h | h; exact absurd h h2; exact h
    have HA := Lib.hid (may_all a c l w hs (by omega) hok)
    rw [h0.2] at HA
    clear hs hl hok hb hat
    rcases (show k = 1 ∨ k = 2 by omega) with rfl | rfl
    all_goals
      clear h0 h2
      go_enter Tryz.func8, Tryz.ntmps8
      go_wp2_with fail
      refine HA.out.mono ?_
      rintro e w1 ⟨rfl, f1⟩
      have F1 := Lib.hid f1
      clear f1
      go_wp2_with fail
      go_ret2
      exact ⟨rfl, F1.out⟩
set_option maxRecDepth 100000 in
set_option maxHeartbeats 1600000 in
theorem write_bad (b most : Nat) (v : Value) (N L : Nat) (k : Nat) (a : Option Addr) (c : Nat) (l : List Tok) (raw : ByteArray) (last : Bool) (w : World) (hw : Wr w b v N L most) (hm : most ≤ 1000000) (hk : k ≤ 255) (hs : SlOf Tok.enc Tok.sz w a l) (hl : l.length ≤ 1000000) (hok : ∀ t ∈ l, t.ok) (hb : badK k l) :
    Calls Tryz.prog 9 #[.pointer (some ⟨b, 0, none⟩), .int .u8 (k : Int), .slice a l.length c, .string raw, .bool last] w fun e w' => e = .returned (.int .i64 2) ∧ Fr [] w w' := by
  have hrm := hw.rm
  have HW := Lib.hid hw
  have HS := Lib.hid (fun W (f : Fr [] w W) => size_badK k a c l raw L W hk (by omega) (hs.fr f (by simp)) hl hok hb)
  have HR := Lib.hid (show L ≤ 1000000000 by omega)
  have hki : (k : Int) ≤ 255 := by omega
  clear hw hrm hs hl hok hb hk
  go_enter Tryz.func9, Tryz.ntmps9
  go_wp2_with fail
  refine (wlen_any b v N L most w HW.out HR.out).mono ?_
  rintro e w1 ⟨rfl, n1, rfl⟩
  have hLi : (L : Int) ≤ 1000000000 := by have := HR.out; omega
  go_wp2_with fail
  refine (HS.out _ (Fr.drewN _ _ _)).mono ?_
  rintro e w2 ⟨rfl, f2⟩
  have F2 := Lib.hid ((Fr.drewN [] w n1).trans f2)
  clear f2
  go_wp2_with fail
  go_ret
  exact ⟨by simp, F2.out⟩
end Go.Proofs.YtciejmlhdmjajaaGreat
namespace Go.Proofs.YtciejmlhdmjajaaGreat
open Go.RowKit
set_option linter.unusedVariables false
set_option linter.unusedSimpArgs false

theorem blN_zero (n : Nat) : u8s (blN 0 n) = Lib.byteCells (List.replicate n 0) := by
  unfold blN u8s Lib.byteCells
  rw [List.map_map, List.map_replicate]
  apply List.ext_getElem
  · simp
  · intro i h1 h2
    simp
theorem made_rf (w : World) (n : Nat) (hn : n ≤ 1000000) : RfI (w.heap.size + 1) (0, n) [w.heap.size + 1, w.heap.size] ((w.alloc (.cells (Lib.byteCells (List.replicate n 0)).toArray 5)).alloc (.cells #[.slice (some ⟨w.heap.size, 0, none⟩) n n] 38)) := by
  have h1 := alloc_last w (.cells (Lib.byteCells (List.replicate n 0)).toArray 5)
  have h2 := alloc_last (w.alloc (.cells (Lib.byteCells (List.replicate n 0)).toArray 5)) (.cells #[.slice (some ⟨w.heap.size, 0, none⟩) n n] 38)
  rw [World.size_alloc] at h2
  refine ⟨.slice (some ⟨w.heap.size, 0, none⟩) n n, rfl, h2, ?_, by simp [Value.ownBlock], Nat.pow_pos (by decide)⟩
  refine ⟨by rw [u8s_len, blN_len, Nat.mul_one], .inr ⟨w.heap.size, n, _, rfl, Nat.zero_le _, (Fr.alloc [] _ _).blk h1 (by simp), Nat.le_refl _, by unfold maxLen; omega, by simp [Lib.byteCells], ?_⟩⟩
  rw [Nat.mul_one, List.take_of_length_le (by simp [Lib.byteCells]), blN_zero]
theorem rmay_any (k : Nat) (a : Option Addr) (c : Nat) (l : List Tok) (raw : ByteArray) (at_ : Nat) (w : World) (hk : k ≤ 255) (hs : SlOf Tok.enc Tok.sz w a l) (hl : l.length ≤ 1000000) (hok : ∀ t ∈ l, t.ok) (hr : raw.size ≤ 1048576) (hat : at_ ≤ 1000000) (E : Int) (hE : E = 2 ∧ badK k l ∨ E = 0 ∧ ¬ badK k l) :
    Calls Tryz.prog 10 #[.int .u8 (k : Int), .slice a l.length c, .string raw, .int .i64 (at_ : Int)] w fun e w' => e = .returned (.int .i64 E) ∧ Fr [] w w' := by
  have hki : (k : Int) ≤ 255 := by omega
  have hli : (l.length : Int) ≤ 1000000 := by omega
  have hri : (raw.size : Int) ≤ 1048576 := by omega
  have hai : (at_ : Int) ≤ 1000000 := by omega
  have HB := Lib.hid (And.intro hs (And.intro hok hE))
  clear hs hl hok hr hat
  by_cases h2 : 2 < k
  · have h2i : 2 < (k : Int) := by omega
    have hE2 : E = 2 := by rcases hE with ⟨h, _⟩ | ⟨_, h⟩; exact h; exact absurd (.inl h2) h
    subst hE2
    clear hE
    go_enter Tryz.func10, Tryz.ntmps10
    go_wp2_with fail
    go_ret
    exact ⟨rfl, Fr.refl _ _⟩
  · have h2i : (k : Int) ≤ 2 := by omega
    clear hE
    go_enter Tryz.func10, Tryz.ntmps10
    go_wp2_with fail
    go_loopw [9] (fun v9 wr => ∃ j : Nat, j ≤ l.length ∧ v9 = .int .i64 (j : Int) ∧ Hid (∀ t ∈ l.take j, t.may = true) ∧ Fr [] w wr) (fun v9 _ => l.length - (intOf v9).toNat)
    case atStart => exact ⟨0, by omega, rfl, Lib.hid (by simp), Fr.refl _ _⟩
    case round =>
      obtain ⟨j, hj, rfl, hp, hf⟩ := hrel
      have HF := Lib.hid hf
      by_cases hlt : 0 < k ∧ j < l.length
      · have hk0 : 0 < (k : Int) := by omega
        have hji : (j : Int) < (l.length : Int) := by omega
        obtain ⟨m, hm⟩ : ∃ m, l[j]? = some m := ⟨l[j]'hlt.2, List.getElem?_eq_getElem _⟩
        obtain ⟨b, o, rfl, hbl, hcell⟩ := (HB.out.1.fr0 hf) (by intro h; rw [h] at hm; simp at hm)
        have k0 := hcell j m hm 0 (.int .u8 (m.lit : Int)) rfl
        have k1 := hcell j m hm 1 (.int .i64 m.len) rfl
        have k2 := hcell j m hm 2 (.int .i64 m.dist) rfl
        simp only [Nat.add_zero, Tok.sz] at k0 k1 k2
        rw [← Nat.add_assoc] at k1 k2
        have hmm := List.mem_of_getElem? hm
        have HM := Lib.hid (fun W => refMay_tok m W (HB.out.2.1 m hmm))
        have HT := Lib.hid (show l.take (j + 1) = l.take j ++ [m] by rw [List.take_add_one, hm]; rfl)
        unfold Tok.val at HM
        obtain ⟨y, hy⟩ : ∃ y, m.may = y := ⟨_, rfl⟩
        rw [hy] at HM
        have HY := Lib.hid (And.intro hy hmm)
        clear hcell hm hf hy hmm
        cases y with
        | true =>
          clear hlt
          go_wp2_with fail
          refine (HM.out _).mono ?_
          rintro e w1 ⟨rfl, f1⟩
          have F1 := Lib.hid (HF.out.trans f1)
          clear f1 k0 k1 k2
          go_wp2_with fail
          go_roundw
          case rel => exact ⟨j + 1, by omega, by go_num, Lib.hid (by rw [HT.out]; intro t ht; rcases List.mem_append.1 ht with h | h; exact hp.out t h; simp at h; rw [h]; exact HY.out.1), F1.out⟩
          case measure => simp [intOf]; omega
        | false =>
          have hE2 : E = 2 := by
            rcases HB.out.2.2 with ⟨h, _⟩ | ⟨_, h⟩
            · exact h
            · exact absurd (.inr ⟨by omega, by rw [List.all_eq_false]; exact ⟨m, HY.out.2, by rw [HY.out.1]; simp⟩⟩) h
          subst hE2
          clear hlt
          go_wp2_with fail
          refine (HM.out _).mono ?_
          rintro e w1 ⟨rfl, f1⟩
          have F1 := Lib.hid (HF.out.trans f1)
          clear f1 k0 k1 k2
          go_wp2_with fail
          go_ret
          exact ⟨by simp, F1.out⟩
      · have hE0 : E = 0 := by
          rcases HB.out.2.2 with ⟨_, h⟩ | ⟨h, _⟩
          · exfalso
            rcases h with h | ⟨h3, h4⟩
            · omega
            · have hjl : j = l.length := by omega
              have h5 := hp.out
              rw [hjl, List.take_of_length_le (Nat.le_refl _)] at h5
              rw [List.all_eq_true.2 h5] at h4
              cases h4
          · exact h
        subst hE0
        have hcase : (k : Int) = 0 ∨ (0 < (k : Int) ∧ (j : Int) = (l.length : Int)) := by omega
        clear hlt hf
        rcases hcase with hc | ⟨hc1, hc2⟩
        · obtain rfl : k = 0 := by omega
          go_wp2_with fail
          go_ret
          exact ⟨by simp, HF.out⟩
        · go_wp2_with fail
          go_ret
          exact ⟨by simp, HF.out⟩
set_option maxRecDepth 100000 in
set_option maxHeartbeats 1600000 in
theorem rsize_ok (k : Nat) (hk : k ≤ 2) (a : Option Addr) (c : Nat) (l : List Tok) (raw : ByteArray) (at_ : Nat) (w : World) (hr : raw.size ≤ 1048576) (hat : at_ ≤ 1000000) (hs : SlOf Tok.enc Tok.sz w a l) (hl : l.length ≤ 1000) (hok : ∀ t ∈ l, t.ok) (hmay : k ≠ 0 → ∀ t ∈ l, t.may = true) :
    Calls Tryz.prog 13 #[.int .u8 (k : Int), .slice a l.length c, .string raw, .int .i64 (at_ : Int)] w fun e w' => e = .returned (.int .i64 ((sizeN k l raw.size at_ : Nat) : Int)) ∧ Fr [] w w' := by
  have hki : (k : Int) ≤ 2 := by omega
  have hai : (at_ : Int) ≤ 1000000 := by omega
  obtain ⟨z, hz⟩ : ∃ z, at_ % 8 = z := ⟨_, rfl⟩
  have hzi : (at_ : Int) % 8 = (z : Int) := by omega
  have hz8 : (z : Int) < 8 := by omega
  have HZ := Lib.hid (show sizeN k l raw.size at_ = sizeN k l raw.size z by
    unfold sizeN
    split
    · unfold storedN; omega
    · rfl)
  have hmk := fun W : World => run_make_bytes W z (by omega)
  have HB := Lib.hid (And.intro hs (And.intro hl (And.intro hok (And.intro hmay hr))))
  clear hs hl hok hmay hr hz
  go_enter Tryz.func13, Tryz.ntmps13
  go_wp2_with fail
  have hmr := made_rf w z (by omega)
  obtain ⟨V, hV⟩ : ∃ V, ((w.alloc (.cells (Lib.byteCells (List.replicate z 0)).toArray 5)).alloc (.cells #[.slice (some ⟨w.heap.size, 0, none⟩) z z] 38)) = V := ⟨_, rfl⟩
  have fV : Fr [] w V := by rw [← hV]; exact (Fr.alloc _ _ _).trans (Fr.alloc _ _ _)
  rw [hV] at hmr ⊢
  refine (rwrite_ok (w.heap.size + 1) k hk a c l raw false (0, z) _ V hmr HB.out.2.2.2.2 (by simp only; omega) (HB.out.1.fr0 fV) HB.out.2.1 HB.out.2.2.1 HB.out.2.2.2.1 (fun i hi h => by
    have := HB.out.1.lt i hi
    simp at h
    omega)).mono ?_
  rintro e w2 ⟨rfl, h2⟩
  have hTs := blockF_size k l raw false (0, z) HB.out.2.2.2.2
  obtain ⟨T, hT⟩ : ∃ T, blockF k l raw false (0, z) = T := ⟨_, rfl⟩
  rw [hT] at h2 hTs
  simp only at hTs
  rw [← HZ.out] at hTs
  obtain ⟨M', ⟨v, rfl, hk'⟩, f2, n2⟩ := h2
  obtain ⟨ao, cap, rfl⟩ := row_form hk'.row
  have c0 := cell_of hk'.blk 0
  simp at c0
  have HF := Lib.hid (show Fr [] w w2 from f2.outL fV (fun i hi => .inr (by simp at hi; omega)))
  have hzz := HB.out.2.2.2.2
  have hsz : sizeN k l raw.size at_ ≤ 1000000000 := by
    by_cases h0 : k = 0
    · subst h0
      have := stored_le at_ raw.size hzz
      unfold sizeN
      rw [if_pos rfl]
      omega
    · exact sizeN_le k l raw.size at_ (by have := HB.out.2.1; omega) HB.out.2.2.1 (HB.out.2.2.2.1 h0) hzz
  obtain ⟨sz, hsz2⟩ : ∃ sz, sizeN k l raw.size at_ = sz := ⟨_, rfl⟩
  have HSz := Lib.hid hsz2
  rw [hsz2] at hTs hsz
  obtain ⟨t2, ht2⟩ : ∃ t2, T.2 = t2 := ⟨_, rfl⟩
  rw [ht2] at c0 hTs
  have hti : (t2 : Int) = (z : Int) + (sz : Int) := by omega
  have hszi : (sz : Int) ≤ 1000000000 := by omega
  clear hT hTs hsz2 ht2 hk' f2 n2 hV fV hmr hzz hsz
  go_wp2_with fail
  go_ret
  exact ⟨by rw [HSz.out]; simp; omega, HF.out⟩
end Go.Proofs.YtciejmlhdmjajaaGreat
namespace Go.Proofs.YtciejmlhdmjajaaGreat
open Go.RowKit
set_option linter.unusedVariables false
set_option linter.unusedSimpArgs false

theorem heavy_ok (a : Option Addr) (n c : Nat) (raw : ByteArray) (w : World) : Calls Tryz.prog 4 #[.slice a n c, .string raw] w fun e w' => e = .returned (.bool (decide (600 < n) || decide (4096 < raw.size))) ∧ w' = w := by
  by_cases h1 : 600 < n
  · have h1i : 600 < (n : Int) := by omega
    go_enter Tryz.func4, Tryz.ntmps4
    go_wp2_with fail
    go_ret
    simp [h1]
  · have h1i : (n : Int) ≤ 600 := by omega
    by_cases h2 : 4096 < raw.size
    · have h2i : 4096 < (raw.size : Int) := by omega
      go_enter Tryz.func4, Tryz.ntmps4
      go_wp2_with fail
      go_ret
      simp [h2]
    · have h2i : (raw.size : Int) ≤ 4096 := by omega
      go_enter Tryz.func4, Tryz.ntmps4
      go_wp2_with fail
      go_ret
      simp [h1, h2]
      omega
theorem order_nrow {w : World} {g : Nat} (h : w.heap[g]? = some (.cells orderC 5 (0, 0))) : Nrow w g 5 .u8 19 (fun i => orderL.getD i 0) := by
  unfold Nrow
  rw [h]
  rfl
def codesO (g g' n : Nat) : Obj := .cells #[.slice (some ⟨g, 0, none⟩) n n, .slice (some ⟨g', 0, none⟩) 30 30] 45 (0, 0)
/-- The four codes in memory, in boxes. -/
structure CM (w : World) (B1 B2 B3 B4 g5 g6 g7 g8 : Nat) (o1 o2 : Obj) (W : World) : Prop where
  fr : Fr [] w W
  b1 : W.heap[B1]? = some o1
  b2 : W.heap[B2]? = some o2
  b3 : W.heap[B3]? = some (codesO g5 g6 288)
  b4 : W.heap[B4]? = some (codesO g7 g8 288)
  r5 : Nrow W g5 5 .u8 288 fixF
  r6 : Nrow W g6 5 .u8 30 (fun _ => 5)
  r7 : Nrow W g7 5 .u8 288 fixF
  r8 : Nrow W g8 5 .u8 30 (fun _ => 5)
theorem CM.to {w : World} {B1 B2 B3 B4 g5 g6 g7 g8 : Nat} {o1 o2 : Obj} {W W' : World} (h : CM w B1 B2 B3 B4 g5 g6 g7 g8 o1 o2 W) (f : Fr [] W W') : CM w B1 B2 B3 B4 g5 g6 g7 g8 o1 o2 W' :=
  ⟨h.fr.trans f, f.blk h.b1 (by simp), f.blk h.b2 (by simp), f.blk h.b3 (by simp), f.blk h.b4 (by simp), h.r5.to f (by simp), h.r6.to f (by simp), h.r7.to f (by simp), h.r8.to f (by simp)⟩
theorem none_cells {W : World} {B : Nat} {a b : Value} (h : W.heap[B]? = some (.cells #[a, b] 45 (0, 0))) : W.cell? ⟨B, 0, none⟩ = some a ∧ W.cell? ⟨B, 1, none⟩ = some b := by
  have c0 := cell_of h 0
  have c1 := cell_of h 1
  simpa using And.intro c0 c1
theorem codes_cells {W : World} {B g g' n : Nat} (h : W.heap[B]? = some (codesO g g' n)) : W.cell? ⟨B, 0, none⟩ = some (.slice (some ⟨g, 0, none⟩) n n) ∧ W.cell? ⟨B, 1, none⟩ = some (.slice (some ⟨g', 0, none⟩) 30 30) := by
  have c0 := cell_of h 0
  have c1 := cell_of h 1
  simpa using And.intro c0 c1
end Go.Proofs.YtciejmlhdmjajaaGreat
namespace Go.Proofs.YtciejmlhdmjajaaGreat
open Go.RowKit
set_option linter.unusedVariables false
set_option linter.unusedSimpArgs false

theorem sizeN_few (k : Nat) (l : List Tok) (n at_ : Nat) (hl : l.length ≤ 300) (hok : ∀ t ∈ l, t.ok) (hmay : ∀ t ∈ l, t.may = true) (hn : n ≤ 100) : sizeN k l n at_ ≤ 1000000 ∧ 3 ≤ sizeN k l n at_ := by
  unfold sizeN
  have hso := symsL_ok hmay fun t ht => (hok t ht).1
  have h0 := symsL_len l
  split
  · unfold storedN; omega
  · split
    · have := takesL_le fixLit fixDist (fun x hx => by have := fixLit_le x hx; omega) (fun x hx => by have := fixDist_le x hx; omega) (symsL l) hso; omega
    · have := takesL_le (bestLit l) (bestDist l) (fun x hx => by have := bestLit_le l x hx; omega) (fun x hx => by have := bestDist_le l x hx; omega) (symsL l) hso
      have := headN_le (bestLit l) (bestDist l) (by rw [bestLit_len]; omega) (by rw [bestDist_len]; omega)
      omega
def someB : ByteArray := { data := #[115, 111, 109, 101, 32, 98, 121, 116, 101, 115] }
end Go.Proofs.YtciejmlhdmjajaaGreat
namespace Go.Proofs.YtciejmlhdmjajaaGreat
open Go.RowKit
set_option linter.unusedVariables false
set_option linter.unusedSimpArgs false

theorem write_good (b most : Nat) (v : Value) (N L : Nat) (k : Nat) (hk : k ≤ 2) (a : Option Addr) (c : Nat) (l : List Tok) (raw : ByteArray) (last : Bool) (w : World) (hw : Wr w b v N L most) (hm : most ≤ 1000000) (hraw : raw.size ≤ 1048576)
    (hs : SlOf Tok.enc Tok.sz w a l) (hl : l.length ≤ 1000000) (hok : ∀ t ∈ l, t.ok) (hmay : k ≠ 0 → ∀ t ∈ l, t.may = true) (hna : ∀ i, i ∈ tokB a l → i ∉ wfp b v) :
    Calls Tryz.prog 9 #[.pointer (some ⟨b, 0, none⟩), .int .u8 (k : Int), .slice a l.length c, .string raw, .bool last] w (Written b most v (blockF k l raw last (N, L)) w) := by
  by_cases h0 : k = 0
  · subst h0; exact write_stored b most v N L a c l raw last w hw hm hraw
  · exact write_any b most v N L k hk a c l raw last w hw hm hraw hs hl hok (hmay h0) hna
theorem size_good (a : Option Addr) (c : Nat) (l : List Tok) (raw : ByteArray) (w : World) (hraw : raw.size ≤ 1048576) (hs : SlOf Tok.enc Tok.sz w a l) (hl : l.length ≤ 1000000) (hok : ∀ t ∈ l, t.ok) (k : Nat) (hk : k ≤ 2) (hmay : k ≠ 0 → ∀ t ∈ l, t.may = true) (at_ : Nat) (hat : at_ ≤ 1000000000) :
    Calls Tryz.prog 8 #[.int .u8 (k : Int), .slice a l.length c, .string raw, .int .i64 (at_ : Int)] w fun e w' => e = .returned (.tuple #[.int .i64 ((sizeN k l raw.size at_ : Nat) : Int), .int .i64 0]) ∧ Fr [] w w' := by
  by_cases h0 : k = 0
  · subst h0; exact size_stored a c l raw at_ w hat hraw
  · exact sizes_any a c l raw w hraw hs hl hok (hmay h0) k hk at_ hat
theorem sizeN_some (k : Nat) (l : List Tok) (n at_ : Nat) (hl : l.length ≤ 600) (hok : ∀ t ∈ l, t.ok) (hmay : k ≠ 0 → ∀ t ∈ l, t.may = true) (hn : n ≤ 4096) : sizeN k l n at_ ≤ 400000 := by
  unfold sizeN
  have h0 := symsL_len l
  split
  · unfold storedN; omega
  · rename_i hk
    have hso := symsL_ok (hmay hk) fun t ht => (hok t ht).1
    split
    · have := takesL_le fixLit fixDist (fun x hx => by have := fixLit_le x hx; omega) (fun x hx => by have := fixDist_le x hx; omega) (symsL l) hso; omega
    · have := takesL_le (bestLit l) (bestDist l) (fun x hx => by have := bestLit_le l x hx; omega) (fun x hx => by have := bestDist_le l x hx; omega) (symsL l) hso
      have := headN_le (bestLit l) (bestDist l) (by rw [bestLit_len]; omega) (by rw [bestDist_len]; omega)
      omega
set_option maxRecDepth 100000 in
set_option maxHeartbeats 6400000 in
theorem blockWrites_walk (w : World) (a0 : Int) (w0 : (Lit.int .u8 a0).wf = true) (a1 : Option Addr) (c1 : Nat) (x1 : List Tok) (l1 : x1.length ≤ maxLen) (s1 : SlOf Tok.enc Tok.sz w a1 x1) (o1 : ∀ x, x ∈ x1 → x.ok) (a2 : ByteArray) (w2 : a2.size ≤ maxLen) (a3 : Int) (w3 : (Lit.int .u8 a3).wf = true) (last : Bool) :
    Calls Tryz.prog 3 #[.int .u8 a0, .slice a1 x1.length c1, .string a2, .int .u8 a3, .bool last] w fun e w' => e = .returned (.bool true) ∧ Below w.heap.size w w' := by
  unfold maxLen at l1 w2
  have h0 : 0 ≤ a0 ∧ a0 ≤ 255 := by simp [Lit.wf, IntKind.min, IntKind.max, IntKind.signed, IntKind.bits] at w0; omega
  have h3 : 0 ≤ a3 ∧ a3 ≤ 255 := by simp [Lit.wf, IntKind.min, IntKind.max, IntKind.signed, IntKind.bits] at w3; omega
  obtain ⟨p, rfl⟩ : ∃ p : Nat, a0 = (p : Int) := ⟨a0.toNat, by omega⟩
  obtain ⟨q, rfl⟩ : ∃ q : Nat, a3 = (q : Int) := ⟨a3.toNat, by omega⟩
  have hp : (p : Int) ≤ 255 := h0.2
  have hq : (q : Int) ≤ 255 := h3.2
  have HW := Lib.hid works13
  have HV := Lib.hid (heavy_ok a1 x1.length c1 a2 w)
  have hl1 : (x1.length : Int) ≤ 9223372036854775807 := by omega
  have hl2 : (a2.size : Int) ≤ 9223372036854775807 := by omega
  clear w0 w3 h0 h3
  by_cases hbig : 600 < x1.length ∨ 4096 < a2.size
  · have hd : (decide (600 < x1.length) || decide (4096 < a2.size)) = true := by simpa using hbig
    rw [hd] at HV
    clear hbig hd s1 o1 l1 w2
    go_enter Tryz.func3, Tryz.ntmps3
    go_wp2_with fail
    refine HV.out.mono ?_
    rintro e w4 ⟨rfl, rfl⟩
    go_wp2_with fail
    refine (HW.out _).mono ?_
    rintro e w5 ⟨rfl, f5⟩
    have F5 := Lib.hid f5
    clear f5
    go_wp2_with fail
    go_ret
    exact ⟨rfl, F5.out.below⟩
  · have hd : (decide (600 < x1.length) || decide (4096 < a2.size)) = false := by simpa using hbig
    rw [hd] at HV
    have HB := Lib.hid (And.intro s1 (And.intro o1 (show x1.length ≤ 600 ∧ a2.size ≤ 4096 by omega)))
    obtain ⟨k, hk⟩ : ∃ k : Nat, p % 4 = k := ⟨_, rfl⟩
    have hki : (p : Int) % 4 = (k : Int) := by omega
    have hk3 : (k : Int) ≤ 3 := by omega
    obtain ⟨n, hn⟩ : ∃ n : Nat, q % 20 = n := ⟨_, rfl⟩
    have hni : (q : Int) % 20 = (n : Int) := by omega
    have hn2 : (n : Int) ≤ 19 := by omega
    clear hbig hd s1 o1 l1 w2 hk hn
    go_enter Tryz.func3, Tryz.ntmps3
    go_wp2_with fail
    refine HV.out.mono ?_
    rintro e w4 ⟨rfl, rfl⟩
    go_wp2_with fail
    refine (wnew_any 65536 w4 (by omega)).mono ?_
    rintro e w5 ⟨rfl, hw5, f5⟩
    have HC := Lib.hid (wbits_ok w4.heap.size (.slice none 0 0) 0 0 65536 0 n w5 hw5 (by omega) (by omega) (by omega) (Nat.pow_pos (by decide)) (by unfold roomB; simp; omega))
    have F5 := Lib.hid f5
    clear hw5 f5
    go_wp2_with fail
    refine HC.out.mono ?_
    rintro e w6 ⟨rfl, v6, hw6, hnew6, f6⟩
    rw [Nat.zero_add, Nat.zero_mul, Nat.zero_add] at hw6
    have hn6 : ∀ i, i ∈ wfp w4.heap.size v6 → w4.heap.size ≤ i := fun i hi => by
      simp only [wfp, List.mem_cons, Option.mem_toList] at hi
      rcases hi with rfl | hi
      · exact Nat.le_refl _
      · rcases hnew6 with h | ⟨g, h1, h2⟩
        · rw [h] at hi; simp [Value.ownBlock] at hi
        · rw [h1] at hi; cases hi; have := F5.out.size; omega
    have H6 := Lib.hid (And.intro hw6 (And.intro hn6 (f6.outL F5.out (fun i hi => .inr (by simp [wfp, Value.ownBlock] at hi; omega)))))
    clear hw6 hnew6 f6 HC hn6
    by_cases hb : badK k x1
    · have HS := Lib.hid (fun W (f : Fr [] w4 W) => size_badK k a1 c1 x1 a2 n W (by omega) (by omega) (HB.out.1.fr0 f) (by have := HB.out.2.2; omega) HB.out.2.1 hb)
      have HWb := Lib.hid (fun W (f : Fr [] w6 W) => write_bad w4.heap.size 65536 v6 0 n k a1 c1 x1 a2 last W (H6.out.1.to f (by simp)) (by omega) (by omega) (HB.out.1.fr0 (H6.out.2.2.trans f)) (by have := HB.out.2.2; omega) HB.out.2.1 hb)
      have HMb := Lib.hid (fun W (f : Fr [] w4 W) => rmay_any k a1 c1 x1 a2 n W (by omega) (HB.out.1.fr0 f) (by have := HB.out.2.2; omega) HB.out.2.1 (by have := HB.out.2.2; omega) (by omega) 2 (.inl ⟨rfl, hb⟩))
      clear hb
      go_wp2_with fail
      refine (HS.out _ H6.out.2.2).mono ?_
      rintro e w7 ⟨rfl, f7⟩
      have F7 := Lib.hid f7
      clear f7
      go_wp2_with fail
      refine (HWb.out _ F7.out).mono ?_
      rintro e w8 ⟨rfl, f8⟩
      have F8 := Lib.hid (F7.out.trans f8)
      clear f8
      go_wp2_with fail
      refine (HMb.out _ (H6.out.2.2.trans F8.out)).mono ?_
      rintro e w9 ⟨rfl, f9⟩
      have F9 := Lib.hid (F8.out.trans f9)
      clear f9
      go_wp2_with fail
      refine (wlen_any w4.heap.size v6 0 n 65536 w9 (H6.out.1.to F9.out (by simp)) (by omega)).mono ?_
      rintro e w10 ⟨rfl, n10, rfl⟩
      go_wp2_with fail
      refine (HW.out _).mono ?_
      rintro e w11 ⟨rfl, f11⟩
      have F11 := Lib.hid (((H6.out.2.2.trans F9.out).trans (Fr.drewN [] w9 n10)).trans f11)
      clear f11
      go_wp2_with fail
      go_ret
      exact ⟨rfl, F11.out.below⟩
    · have hk2 : k ≤ 2 := by
        rcases Nat.lt_or_ge 2 k with h | h
        · exact absurd (.inl h) hb
        · exact h
      have hmay : k ≠ 0 → ∀ t ∈ x1, t.may = true := fun h0 => by
        cases hq : x1.all Tok.may with
        | true => exact List.all_eq_true.1 hq
        | false => exact absurd (.inr ⟨h0, hq⟩) hb
      have hz := sizeN_some k x1 a2.size n (by have := HB.out.2.2; omega) HB.out.2.1 hmay (by have := HB.out.2.2; omega)
      have HS := Lib.hid (fun W (f : Fr [] w4 W) => size_good a1 c1 x1 a2 W (by have := HB.out.2.2; omega) (HB.out.1.fr0 f) (by have := HB.out.2.2; omega) HB.out.2.1 k hk2 hmay n (by omega))
      have HRS := Lib.hid (fun W (f : Fr [] w4 W) => rsize_ok k hk2 a1 c1 x1 a2 n W (by have := HB.out.2.2; omega) (by omega) (HB.out.1.fr0 f) (by have := HB.out.2.2; omega) HB.out.2.1 hmay)
      have HMb := Lib.hid (fun W (f : Fr [] w4 W) => rmay_any k a1 c1 x1 a2 n W (by omega) (HB.out.1.fr0 f) (by have := HB.out.2.2; omega) HB.out.2.1 (by have := HB.out.2.2; omega) (by omega) 0 (.inr ⟨rfl, hb⟩))
      have hTs := blockF_size k x1 a2 last (0, n) (by have := HB.out.2.2; omega)
      obtain ⟨sz, hsz⟩ : ∃ sz, sizeN k x1 a2.size n = sz := ⟨_, rfl⟩
      obtain ⟨T, hT⟩ : ∃ T, blockF k x1 a2 last (0, n) = T := ⟨_, rfl⟩
      rw [hsz] at hz HS HRS hTs
      rw [hT] at hTs
      have HT := Lib.hid (And.intro hT (And.intro hmay (show T.2 = n + sz from hTs)))
      have hszi : (sz : Int) ≤ 400000 := by omega
      clear hb hmay hz hTs hsz hT
      go_wp2_with fail
      refine (HS.out _ H6.out.2.2).mono ?_
      rintro e w7 ⟨rfl, f7⟩
      have F7 := Lib.hid f7
      clear f7
      go_wp2_with fail
      refine (write_good w4.heap.size 65536 v6 0 n k hk2 a1 c1 x1 a2 last w7 (H6.out.1.to F7.out (by simp)) (by omega) (by have := HB.out.2.2; omega) (HB.out.1.fr0 (H6.out.2.2.trans F7.out)) (by have := HB.out.2.2; omega) HB.out.2.1 HT.out.2.1 (fun i hi h => by
        have h1 := HB.out.1.lt i hi
        have h2 := H6.out.2.1 i h
        omega)).mono ?_
      rintro e w8 ⟨v8, N8, L8, E8, rfl, k8, f8, n8, d8⟩
      rw [HT.out.1] at d8
      have hd8 : E8 = 0 ∧ N8 = T.1 ∧ L8 = T.2 := by
        rcases d8 with ⟨_, h1, h2, h3⟩ | ⟨h1, _⟩
        · exact ⟨h1, h2, h3⟩
        · unfold roomy at h1
          rw [HT.out.2.2] at h1
          simp at h1
          omega
      obtain ⟨rfl, rfl, rfl⟩ := hd8
      have H8 := Lib.hid (And.intro k8 (And.intro (f8.outL (H6.out.2.2.trans F7.out) (fun i hi => .inr (H6.out.2.1 i hi))) n8))
      clear k8 f8 n8 d8
      go_wp2_with fail
      refine (HMb.out _ H8.out.2.1).mono ?_
      rintro e w9 ⟨rfl, f9⟩
      have F9 := Lib.hid f9
      clear f9
      have hmk := fun W : World => run_make_bytes W n (by omega)
      go_wp2_with fail
      have hmr := made_rf w9 n (by omega)
      obtain ⟨V, hV⟩ : ∃ V, ((w9.alloc (.cells (Lib.byteCells (List.replicate n 0)).toArray 5)).alloc (.cells #[.slice (some ⟨w9.heap.size, 0, none⟩) n n] 38)) = V := ⟨_, rfl⟩
      have fV : Fr [] w9 V := by rw [← hV]; exact (Fr.alloc _ _ _).trans (Fr.alloc _ _ _)
      rw [hV] at hmr ⊢
      have f49 : Fr [] w4 w9 := H8.out.2.1.trans F9.out
      refine (rwrite_ok (w9.heap.size + 1) k hk2 a1 c1 x1 a2 last (0, n) _ V hmr (by have := HB.out.2.2; omega) (by simp only; omega) (HB.out.1.fr0 (f49.trans fV)) (by have := HB.out.2.2; omega) HB.out.2.1 HT.out.2.1 (fun i hi h => by
        have := HB.out.1.lt i hi
        have := f49.size
        simp at h
        omega)).mono ?_
      rintro e w10 ⟨rfl, h10⟩
      rw [HT.out.1] at h10
      obtain ⟨M', kI, f10, n10⟩ := h10
      have hwl := H8.out.1.st.lt
      have hw10 : Wr w10 w4.heap.size v8 T.1 T.2 65536 := ((H8.out.1.to (F9.out.trans fV) (by simp))).to f10 (fun i hi h => by
        have h1 := hwl i hi
        have h2 := F9.out.size
        simp at h
        omega)
      have f410 : Fr [] w4 w10 := f10.outL (f49.trans fV) (fun i hi => .inr (by have := f49.size; simp at hi; omega))
      have H10 := Lib.hid (And.intro hw10 (And.intro kI f410))
      clear hw10 kI f410 f10 n10 hwl hmr hV fV f49 hmk
      have hTz : T.2 ≤ 500000 := by have := HT.out.2.2; omega
      obtain ⟨S, hS⟩ : ∃ S, wtext T.1 T.2 = S := ⟨_, rfl⟩
      have CS := Lib.hid (fun W (f : Fr [] w10 W) => HRS.out W (H10.out.2.2.trans f))
      have CL : Hid (∀ W, Fr [] w10 W → Calls Tryz.prog 11 #[.pointer (some ⟨w4.heap.size, 0, none⟩)] W fun e w' => e = .returned (.int .i64 (T.2 : Int)) ∧ Fr [] W w') := Lib.hid (fun W f => (wlen_any w4.heap.size v8 T.1 T.2 65536 W (H10.out.1.to f (by simp)) (by omega)).mono fun e w' ⟨h1, n, h2⟩ => ⟨h1, by rw [h2]; exact Fr.drewN _ _ _⟩)
      have CT : Hid (∀ W, Fr [] w10 W → Calls Tryz.prog 14 #[.pointer (some ⟨w4.heap.size, 0, none⟩)] W fun e w' => e = .returned (.string S) ∧ Fr [] W w') := Lib.hid (fun W f => by
        have h := wtext_any w4.heap.size v8 T.1 T.2 65536 W (H10.out.1.to f (by simp)) (by omega)
        rw [hS] at h
        exact h)
      have CR : Hid (∀ W, Fr [] w10 W → Calls Tryz.prog 15 #[.pointer (some ⟨w9.heap.size + 1, 0, none⟩)] W fun e w' => e = .returned (.string S) ∧ Fr [] W w') := Lib.hid (fun W f => by
        have h := rtext_ok (w9.heap.size + 1) T M' W (H10.out.2.1.to0 f) (by omega)
        rw [hS] at h
        exact h)
      have hI12 := H10.out.2.1
      obtain ⟨v, hM, hk'⟩ := hI12
      obtain ⟨ao, cap, rfl⟩ := row_form hk'.row
      obtain ⟨t2, ht2⟩ : ∃ t2, T.2 = t2 := ⟨_, rfl⟩
      have SK := Lib.hid (fun W (f : Fr [] w10 W) => (show W.cell? ⟨w9.heap.size + 1, 0, none⟩ = some (.slice ao t2 cap) from by
        have c0 := cell_of (f.blk hk'.blk (by simp)) 0
        rw [← ht2]
        simpa using c0))
      rw [ht2] at CL
      have c0 := SK.out w10 (Fr.refl _ _)
      clear hk' hM ht2 hS HRS
      go_wp2_with fail
      go_region_held3 (fun W => W.cell? ⟨w9.heap.size + 1, 0, none⟩ = some (.slice ao t2 cap))
        (first | exact SK.out _ G5.out | exact SK.out _ G4.out | exact SK.out _ G3.out | exact SK.out _ G2.out | exact SK.out _ G1.out | exact SK.out _ (Fr.drew (Fr.refl _ _)) | exact SK.out _ (Fr.refl _ _))
        (first
          | (go_at_call 13; (with_reducible refine (CS.out _ (by first | exact Fr.drew (Fr.refl _ _) | exact Fr.refl _ _)).mono ?_); rintro e wa ⟨rfl, fa⟩; have G1 := Lib.hid ((show Fr [] w10 _ from by first | exact Fr.drew (Fr.refl _ _) | exact Fr.refl _ _).trans fa); clear fa)
          | (go_at_call 11; (with_reducible refine (CL.out _ (by exact G1.out)).mono ?_); rintro e wb ⟨rfl, fb⟩; have G2 := Lib.hid (G1.out.trans fb); clear fb)
          | (go_at_call 14; (with_reducible refine (CT.out _ (by exact G2.out)).mono ?_); rintro e wc ⟨rfl, fc⟩; have G3 := Lib.hid (G2.out.trans fc); clear fc)
          | (go_at_call 15; (with_reducible refine (CR.out _ (by exact G3.out)).mono ?_); rintro e wd ⟨rfl, fd⟩; have G4 := Lib.hid (G3.out.trans fd); clear fd)
          | (go_at_call 5; (with_reducible refine (HW.out _).mono ?_); rintro e we ⟨rfl, fe⟩; have G5 := Lib.hid (G4.out.trans fe); clear fe))
      all_goals go_wp2_with fail
      all_goals (go_ret; exact ⟨rfl, (H10.out.2.2.trans G5.out).below⟩)
end Go.Proofs.YtciejmlhdmjajaaGreat

