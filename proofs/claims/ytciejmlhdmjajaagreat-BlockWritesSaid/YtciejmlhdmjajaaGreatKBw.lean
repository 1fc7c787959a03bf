/- What each call of a writer of bits (package bitw) does: each function of it once, whatever was written, whatever room there is. -/
import Derived.Test.YtciejmlhdmjajaaGreatKRw
import Derived.Test.YtciejmlhdmjajaaGreatKBr
import Derived.Deep.LoopGhost
import Derived.Deep.RegionLaw
import Derived.Deep.AppendLies
import Derived.OneCell
import Derived.OwnWalk
import Derived.Laws.BytesArg
namespace Go.Proofs.YtciejmlhdmjajaaGreat
open Go.RowKit
set_option linter.unusedVariables false
set_option linter.unusedSimpArgs false

/-- The cells of a writer's block. -/
def wcells (v : Value) (x h most : Nat) : Array Value := #[v, .int .u64 x, .int .i64 h, .int .i64 most]
/-- Block b is a writer that has put out the lowest c bytes of X, and has h bits behind them. -/
structure WrS (w : World) (b : Nat) (v : Value) (X c h most : Nat) : Prop where
  blk : w.heap[b]? = some (.cells (wcells v (X / 2 ^ (8 * c)) h most) 48 (0, 0))
  row : w.ownsRow 0 5 1 v c (Lib.byteCells (lebL X c))
  ne : v.ownBlock ≠ some b
/-- Block b is a writer of the L bits of N; there is room for so many bytes. -/
structure Wr (w : World) (b : Nat) (v : Value) (N L most : Nat) : Prop where
  st : WrS w b v N (L / 8) (L % 8) most
  lt : N < 2 ^ L
  rm : (L + 7) / 8 ≤ most
theorem WrS.c0 {w : World} {b : Nat} {v : Value} {X c h most : Nat} (k : WrS w b v X c h most) : w.cell? ⟨b, 0, none⟩ = some v := cell_of k.blk 0
theorem WrS.c1 {w : World} {b : Nat} {v : Value} {X c h most : Nat} (k : WrS w b v X c h most) : w.cell? ⟨b, 1, none⟩ = some (.int .u64 ((X / 2 ^ (8 * c) : Nat) : Int)) := cell_of k.blk 1
theorem WrS.c2 {w : World} {b : Nat} {v : Value} {X c h most : Nat} (k : WrS w b v X c h most) : w.cell? ⟨b, 2, none⟩ = some (.int .i64 h) := cell_of k.blk 2
theorem WrS.c3 {w : World} {b : Nat} {v : Value} {X c h most : Nat} (k : WrS w b v X c h most) : w.cell? ⟨b, 3, none⟩ = some (.int .i64 most) := cell_of k.blk 3
theorem WrS.fz {w : World} {b : Nat} {v : Value} {X c h most : Nat} (k : WrS w b v X c h most) (i : Nat) : w.frozen? ⟨b, i, none⟩ = false := free_of k.blk i

theorem WrS.to {w w' : World} {b : Nat} {v : Value} {X c h most : Nat} {l : List Nat} (k : WrS w b v X c h most) (f : Fr l w w') (hl : ∀ i, i ∈ wfp b v → i ∉ l) : WrS w' b v X c h most :=
  ⟨f.blk k.blk (hl b (by simp [wfp])), ownsRow_to k.row f (fun g hg => hl g (by simp [wfp, hg])), k.ne⟩
theorem Wr.to {w w' : World} {b : Nat} {v : Value} {N L most : Nat} {l : List Nat} (k : Wr w b v N L most) (f : Fr l w w') (hl : ∀ i, i ∈ wfp b v → i ∉ l) : Wr w' b v N L most := ⟨k.st.to f hl, k.lt, k.rm⟩
theorem WrS.lt {w : World} {b : Nat} {v : Value} {X c h most : Nat} (k : WrS w b v X c h most) : ∀ i, i ∈ wfp b v → i < w.heap.size := fun i hi => by
  simp only [wfp, List.mem_cons, Option.mem_toList] at hi
  rcases hi with rfl | hi
  · exact lt_of k.blk
  · exact (k.row.lt i hi).2

/-- A number in one of the writer's own cells. -/
theorem WrS.set1 {w : World} {b : Nat} {v : Value} {X c h most : Nat} (k : WrS w b v X c h most) (Y : Nat) (hY : lebL Y c = lebL X c) : WrS (w.setCell ⟨b, 1, none⟩ (.int .u64 ((Y / 2 ^ (8 * c) : Nat) : Int))) b v Y c h most :=
  ⟨by have := set_of k.blk 1 (.int .u64 ((Y / 2 ^ (8 * c) : Nat) : Int)); simpa [wcells] using this, by rw [hY]; exact ownsRow_setCell_other k.row k.ne _, k.ne⟩
theorem WrS.set2 {w : World} {b : Nat} {v : Value} {X c h most : Nat} (k : WrS w b v X c h most) (h' : Nat) : WrS (w.setCell ⟨b, 2, none⟩ (.int .i64 h')) b v X c h' most :=
  ⟨by have := set_of k.blk 2 (.int .i64 h'); simpa [wcells] using this, ownsRow_setCell_other k.row k.ne _, k.ne⟩

/-- Is there room for so many bits more? -/
def roomB (L size most : Nat) : Bool := decide ((L + size + 7) / 8 ≤ most)

set_option maxHeartbeats 400000 in
theorem room_any (b : Nat) (v : Value) (N L most size : Nat) (w : World) (hw : Wr w b v N L most) (hL : L ≤ 1000000000) (hz : size ≤ 1000000000) :
    Calls Tryz.prog 19 #[.pointer (some ⟨b, 0, none⟩), .int .i64 size] w fun e w' => e = .returned (.bool (roomB L size most)) ∧ ∃ n, w' = w.drewN n := by
  have hrow := hw.st.row
  have c0 := hw.st.c0
  have c2 := hw.st.c2
  have c3 := hw.st.c3
  obtain ⟨ao, cap, rfl⟩ : ∃ ao cap, v = .slice ao (L / 8) cap := by
    rcases hrow.2 with ⟨h, h0⟩ | ⟨g, cap, cur, h, _⟩
    · exact ⟨none, 0, by rw [h, h0]⟩
    · exact ⟨_, cap, h⟩
  have HD : Hid (decide ((((L / 8 : Nat) : Int) + (((L % 8 : Nat) : Int) + (size : Int) + 7) / 8) ≤ (most : Int)) = roomB L size most) := by
    unfold Hid roomB; apply decide_eq_decide.2; omega
  have hq : L / 8 ≤ 1000000000 := by omega
  have hr : L % 8 < 8 := by omega
  clear hw hrow
  generalize L / 8 = q at *
  generalize L % 8 = r at *
  have i1 : (q : Int) ≤ 1000000000 := by omega
  have i2 : (r : Int) < 8 := by omega
  have i3 : (size : Int) ≤ 1000000000 := by omega
  clear hq hr
  go_enter Tryz.func19, Tryz.ntmps19
  go_wp2
  go_quiet (fail)
  go_wp2
  go_ret
  exact ⟨by rw [← HD.out]; rfl, _, rfl⟩

/-- What a writing of bits tells. -/
def wbE (L most n : Nat) (size : Int) : Int := if size < 0 ∨ 56 < size ∨ 2 ^ size.toNat ≤ n then 2 else if roomB L size.toNat most then 0 else 4

theorem and_high (n size : Nat) (hn : n < 2 ^ 64) (hs : size ≤ 56) : bits .andNot .u64 (n : Int) (maskN (size : Int) : Int) = ((n / 2 ^ size * 2 ^ size : Nat) : Int) := by
  have hm : maskN (size : Int) = 2 ^ size - 1 := by unfold maskN; rw [show min (size : Int).toNat 64 = size by omega]
  rw [hm]; exact andNot_mask n size hn (by omega)

/-- The first step of a writing: the new bits ahead of those that are no byte yet. -/
theorem or_new (N n L size : Nat) (hN : N < 2 ^ L) (hn : n < 2 ^ size) (hs : size ≤ 56) :
    bits .or .u64 ((N / 2 ^ (8 * (L / 8)) : Nat) : Int) (IntKind.u64.wrap ((n : Int) * 2 ^ (L % 8))) = (((N + n * 2 ^ L) / 2 ^ (8 * (L / 8)) : Nat) : Int) := by
  have e0 : (2:Nat) ^ L = 2 ^ (8 * (L / 8)) * 2 ^ (L % 8) := by rw [← Nat.pow_add]; congr 1; omega
  have hx : N / 2 ^ (8 * (L / 8)) < 2 ^ (L % 8) := by rw [Nat.div_lt_iff_lt_mul (Nat.pow_pos (by decide)), Nat.mul_comm, ← e0]; exact hN
  have hp : (2:Nat) ^ (L % 8) ≤ 2 ^ 7 := Nat.pow_le_pow_right (by decide) (by omega)
  have hq : (2:Nat) ^ size ≤ 2 ^ 56 := Nat.pow_le_pow_right (by decide) hs
  have hy : n * 2 ^ (L % 8) < 2 ^ 63 := by
    calc n * 2 ^ (L % 8) < 2 ^ size * 2 ^ (L % 8) := Nat.mul_lt_mul_of_pos_right hn (Nat.pow_pos (by decide))
      _ ≤ 2 ^ 56 * 2 ^ 7 := Nat.mul_le_mul hq hp
      _ = 2 ^ 63 := by decide
  have e2 : IntKind.u64.wrap ((n : Int) * 2 ^ (L % 8)) = ((n * 2 ^ (L % 8) : Nat) : Int) := by
    have hcc : ((2:Int) ^ (L % 8)) = ((2 ^ (L % 8) : Nat) : Int) := by simp
    rw [hcc, ← Int.natCast_mul, IntKind.wrap_u64, Int.emod_eq_of_lt (by omega) (by omega)]
  rw [e2, or_low _ _ _ hx (by omega) (by omega)]
  congr 1
  rw [e0, Nat.mul_left_comm, Nat.add_mul_div_left _ _ (Nat.pow_pos (by decide))]

theorem lebL_same (N n L : Nat) : lebL (N + n * 2 ^ L) (L / 8) = lebL N (L / 8) := by
  apply numL_inj (by simp [length_lebL])
  rw [numL_lebL, numL_lebL, pow256]
  have e0 : (2:Nat) ^ L = 2 ^ (8 * (L / 8)) * 2 ^ (L % 8) := by rw [← Nat.pow_add]; congr 1; omega
  rw [e0, Nat.mul_left_comm, Nat.add_mul_mod_self_left]

theorem new_lt (N n L size : Nat) (hN : N < 2 ^ L) (hn : n < 2 ^ size) : N + n * 2 ^ L < 2 ^ (L + size) := by
  have h : (n + 1) * 2 ^ L ≤ 2 ^ size * 2 ^ L := Nat.mul_le_mul_right _ hn
  rw [Nat.add_mul, Nat.one_mul] at h
  rw [Nat.pow_add, Nat.mul_comm (2 ^ L)]
  omega

theorem byte_cells (X c : Nat) : Lib.byteCells (lebL X c) ++ [.int .u8 (((X / 2 ^ (8 * c)) % 256 : Nat) : Int)] = Lib.byteCells (lebL X (c + 1)) := by
  rw [lebL_add, ← pow256]
  simp [Lib.byteCells, lebL]

theorem grown_blk {w w4 : World} {o : Obj} {b : Nat} {v : Value} {X c h most : Nat} (k : WrS w b v X c h most) (g : ((w.alloc o).drew).grownBy w4 v.ownBlock) : w4.heap[b]? = some (.cells (wcells v (X / 2 ^ (8 * c)) h most) 48 (0, 0)) := by
  have hb := lt_of k.blk
  rw [g.block b (by show b < (w.alloc o).heap.size; simp; omega) (fun e => k.ne e.symm)]
  show (w.alloc o).heap[b]? = _
  rw [heap_alloc_old w o hb]
  exact k.blk
theorem grown_fr {w w4 : World} {o : Obj} {b : Nat} {v : Value} {X c h most : Nat} (k : WrS w b v X c h most) (g : ((w.alloc o).drew).grownBy w4 v.ownBlock) : Fr (wfp b v) w w4 := by
  refine ⟨g.os, g.tape, g.output, ?_, fun i hi hl => ?_⟩
  · have := g.size; have e : (w.alloc o).drew.heap.size = w.heap.size + 1 := by show (w.alloc o).heap.size = _; simp
    omega
  · rw [g.block i (by show i < (w.alloc o).heap.size; simp; omega) (fun e => hl (by simp [wfp, ← e]))]
    show (w.alloc o).heap[i]? = _
    exact heap_alloc_old w o hi

/-- A byte has been put behind the others, and the two numbers have been stored. -/
theorem put_byte {w w4 : World} {o : Obj} {b : Nat} {v : Value} {X c h h' most g cap : Nat} {z2 h2 : Int} {xs : List Value} (k : WrS w b v X c h most) (hgrow : ((w.alloc o).drew).grownBy w4 v.ownBlock)
    (hown : w4.ownsRow 0 5 1 (.slice (some ⟨g, 0, none⟩) (c + 1) cap) (c + 1) xs) (hxs : xs = Lib.byteCells (lebL X (c + 1))) (hg : v.ownBlock = some g ∨ g = (w.alloc o).drew.heap.size)
    (hz : z2 = ((X / 2 ^ (8 * (c + 1)) : Nat) : Int)) (hh : h2 = (h' : Int)) :
    WrS (((w4.setCell ⟨b, 0, none⟩ (.slice (some ⟨g, 0, none⟩) (c + 1) cap)).setCell ⟨b, 1, none⟩ (.int .u64 z2)).setCell ⟨b, 2, none⟩ (.int .i64 h2)) b (.slice (some ⟨g, 0, none⟩) (c + 1) cap) X (c + 1) h' most ∧
      NewRow w v (.slice (some ⟨g, 0, none⟩) (c + 1) cap) ∧
      Fr (wfp b v) w (((w4.setCell ⟨b, 0, none⟩ (.slice (some ⟨g, 0, none⟩) (c + 1) cap)).setCell ⟨b, 1, none⟩ (.int .u64 z2)).setCell ⟨b, 2, none⟩ (.int .i64 h2)) := by
  subst hz hh hxs
  have hb := lt_of k.blk
  have hsz : (w.alloc o).drew.heap.size = w.heap.size + 1 := by show (w.alloc o).heap.size = _; simp
  have hne : (Value.slice (some ⟨g, 0, none⟩) (c + 1) cap).ownBlock ≠ some b := by
    intro e
    have e1 : g = b := by simpa [Value.ownBlock] using e
    subst e1
    rcases hg with hg | hg
    · exact k.ne hg
    · omega
  have f4 := grown_fr k hgrow
  refine ⟨⟨?_, ?_, hne⟩, ?_, ?_⟩
  · have h0 := set_of (grown_blk k hgrow) 0 (.slice (some ⟨g, 0, none⟩) (c + 1) cap)
    have h1 := set_of h0 1 (.int .u64 ((X / 2 ^ (8 * (c + 1)) : Nat) : Int))
    have h2 := set_of h1 2 (.int .i64 (h' : Int))
    simpa [wcells] using h2
  · exact ownsRow_setCell_other (ownsRow_setCell_other (ownsRow_setCell_other hown hne _) hne _) hne _
  · rcases hg with hg | hg
    · exact .inl (by rw [hg]; rfl)
    · exact .inr ⟨g, rfl, by omega⟩
  · exact f4.trans (((Fr.setCell _ _ _ _).mono (by simp [wfp])).trans (((Fr.setCell _ _ _ _).mono (by simp [wfp])).trans ((Fr.setCell _ _ _ _).mono (by simp [wfp]))))

set_option maxRecDepth 100000 in
set_option maxHeartbeats 1600000 in
theorem wbits_ok (b : Nat) (v : Value) (N L most n size : Nat) (w : World) (hw : Wr w b v N L most) (hL : L ≤ 1000000000) (hm : most ≤ 9223372036854775807) (hz : size ≤ 56) (hn : n < 2 ^ size) (hroom : roomB L size most = true) :
    Calls Tryz.prog 7 #[.pointer (some ⟨b, 0, none⟩), .int .u64 n, .int .i64 size] w fun e w' => e = .returned (.int .i64 0) ∧ ∃ v', Wr w' b v' (N + n * 2 ^ L) (L + size) most ∧ NewRow w v v' ∧ Fr (wfp b v) w w' := by
  have hn64 : n < 2 ^ 64 := Nat.lt_of_lt_of_le hn (Nat.pow_le_pow_right (by decide) (by omega))
  have hand : bits .andNot .u64 (n : Int) (maskN (size : Int) : Int) = 0 := by rw [and_high n size hn64 hz, Nat.div_eq_of_lt hn]; simp
  have hor := or_new N n L size hw.lt hn hz
  obtain ⟨x, hx⟩ : ∃ x, N / 2 ^ (8 * (L / 8)) = x := ⟨_, rfl⟩
  obtain ⟨r, hr⟩ : ∃ r, L % 8 = r := ⟨_, rfl⟩
  obtain ⟨y, hy⟩ : ∃ y, (N + n * 2 ^ L) / 2 ^ (8 * (L / 8)) = y := ⟨_, rfl⟩
  rw [hx, hr, hy] at hor
  have HOR := Lib.hid hor
  have HX := Lib.hid hx
  have HR := Lib.hid hr
  have HY := Lib.hid hy
  have hr8 : (r : Int) < 8 := by omega
  have hr0 : 0 ≤ (r : Int) := by omega
  clear hor hx hr hy
  have i1 : 0 ≤ (size : Int) := by omega
  have i2 : (size : Int) ≤ 56 := by omega
  have HW := Lib.hid hw
  clear hw
  go_enter Tryz.func7, Tryz.ntmps7
  go_wp2_with fail
  go_step3
  go_wp2_with fail
  refine (mask_any _ _).mono ?_
  rintro e w1 ⟨rfl, rfl⟩
  go_wp2_with fail
  refine (room_any b v N L most size _ HW.out hL (by omega)).mono ?_
  rintro e w2 ⟨rfl, n1, rfl⟩
  have hw1 : Wr (w1.drewN n1) b v N L most := HW.out.to (Fr.drewN [] _ _) (by simp)
  have c1 := hw1.st.c1
  have c2 := hw1.st.c2
  have f1 := hw1.st.fz 1
  have f2 := hw1.st.fz 2
  rw [HX.out] at c1
  rw [HR.out] at c2
  go_wp2_with fail
  have hf1 : Fr [] w1 (w1.drewN n1) := Fr.drewN _ _ _
  have hlt := hw1.lt
  clear HW
  generalize w1.drewN n1 = W0 at *
  go_still_tail 13, (by kernel_rfl)
  change wpList _ _ _ _ _ W0.drew
  have hS := (hw1.st.set1 (N + n * 2 ^ L) (lebL_same N n L)).set2 (r + size)
  rw [HY.out, Int.natCast_add] at hS
  replace hS := hS.to (Fr.drew (Fr.refl [] _)) (by simp)
  have hf2 : Fr (wfp b v) w1 ((W0.setCell ⟨b, 1, none⟩ (.int .u64 (y : Int))).setCell ⟨b, 2, none⟩ (.int .i64 ((r : Int) + (size : Int)))).drew := Fr.drew (hf1.nil.trans (((Fr.setCell _ _ _ _).mono (by simp [wfp])).trans ((Fr.setCell _ _ _ _).mono (by simp [wfp]))))
  rw [HOR.out]
  go_wp2_with (fail_if_success (go_outline))
  clear c1 c2 f1 f2 hw1 hf1
  generalize ((W0.setCell ⟨b, 1, none⟩ (.int .u64 (y : Int))).setCell ⟨b, 2, none⟩ (.int .i64 ((r : Int) + (size : Int)))).drew = W1 at *
  have HS := Lib.hid hS
  clear hS
  go_step3
  go_wp2_with fail
  go_loopg [] ((r + size) / 8) (fun g wr => ∃ c h v', g = h / 8 ∧ L / 8 ≤ c ∧ 8 * c + h = L + size ∧ WrS wr b v' (N + n * 2 ^ L) c h most ∧ NewRow w1 v v' ∧ Fr (wfp b v) w1 wr)
  case atStart => exact ⟨L / 8, r + size, v, rfl, Nat.le_refl _, by have := HR.out; omega, HS.out, NewRow.refl _ _, hf2⟩
  case round =>
    obtain ⟨c, h, v', rfl, hc, hch, hS, hN, hF⟩ := hrel
    by_cases h8 : h < 8
    · have c2 := hS.c2
      have h8' : (h : Int) < 8 := by omega
      go_wp2_with fail
      rw [Exit.noGoto_ret]
      go_ret
      have hcc : c = (L + size) / 8 := by omega
      have hhh : h = (L + size) % 8 := by omega
      subst hcc hhh
      exact ⟨rfl, v', ⟨hS, new_lt N n L size hlt hn, by simpa [roomB] using hroom⟩, hN, hF⟩
    · obtain ⟨z, hz⟩ : ∃ z, (N + n * 2 ^ L) / 2 ^ (8 * c) = z := ⟨_, rfl⟩
      have hk : IntKind.u8.wrap (z : Int) = ((z % 256 : Nat) : Int) := by rw [IntKind.wrap_u8]; omega
      obtain ⟨k, hk'⟩ : ∃ k, z % 256 = k := ⟨_, rfl⟩
      rw [hk'] at hk
      have c0 := hS.c0
      have c1 := hS.c1
      have c2 := hS.c2
      have f0 := hS.fz 0
      have hblt : b < wr.heap.size := lt_of hS.blk
      have hcb := cell_of (w := wr.alloc (.cells #[.int .u8 (k : Int)] 5)) ((heap_alloc_old wr (.cells #[.int .u8 (k : Int)] 5) hblt).trans hS.blk) 0
      replace hcb : (wr.alloc (.cells #[.int .u8 (k : Int)] 5)).cell? ⟨b, 0, none⟩ = some v' := hcb
      rw [hz] at c1
      have hrow := hS.row
      have hbk := byte_cells (N + n * 2 ^ L) c
      rw [hz, hk'] at hbk
      have HBK := Lib.hid hbk
      have HZ := Lib.hid hz
      have HK' := Lib.hid hk'
      have h8' : 8 ≤ (h : Int) := by omega
      have hc1 : c + 1 ≤ maxLen := by unfold maxLen; omega
      have hc2 : (c + 1) * 1 ≤ 140737488355328 := by omega
      have hone : ∀ u ∈ [Value.int .u8 (k : Int)], u.oneCell' = true := by intro u hu; simp at hu; subst hu; rfl
      have hnew := cell_one_new wr (.int .u8 (k : Int)) 5
      obtain ⟨i0, hi, hz0, hz1, hz2⟩ := u8info
      have HI0 := Lib.hid hi
      have HIz := Lib.hid hz0
      have HIs := Lib.hid hz1
      have HIb := Lib.hid hz2
      have HROW := Lib.hid hrow
      have HNEW := Lib.hid hnew
      have HONE := Lib.hid hone
      have HS := Lib.hid hS
      clear hbk hz hk' hrow hnew hone hi hz0 hz1 hz2 hS
      go_wp2_with fail
      go_region_law ((refine step_append_lies _ rfl (.tmp 59) (.tmp 65) 36 rfl 0 5 i0 (.int .u8 0) 1 1 Tryz.underlying36 HI0.out HIz.out HIs.out HIb.out rfl (by decide) v' c _ rfl (by exact HROW.out.alloc _) ⟨wr.heap.size, 0, none⟩ 1 1 [.int .u8 (k : Int)] rfl rfl (by exact HNEW.out) HONE.out (by decide) hc1 hc2 (Nat.zero_le _) _ rfl ?_; intro g cap w4 hown4 hgrow4 hg4 hlt4; have hf4 : Fr (wfp b v') wr w4 := grown_fr HS.out hgrow4; have k0 : w4.cell? ⟨b, 0, none⟩ = some v' := cell_of (grown_blk HS.out hgrow4) 0; have k1 : w4.cell? ⟨b, 1, none⟩ = some (.int .u64 (z : Int)) := HZ.out ▸ cell_of (grown_blk HS.out hgrow4) 1; have k2 : w4.cell? ⟨b, 2, none⟩ = some (.int .i64 (h : Int)) := cell_of (grown_blk HS.out hgrow4) 2; have e0 := free_of (grown_blk HS.out hgrow4) 0; have e1 := free_of (grown_blk HS.out hgrow4) 1; have e2 := free_of (grown_blk HS.out hgrow4) 2; have HG := Lib.hid (grown_blk HS.out hgrow4)))
      all_goals
        go_wp2_with (fail_if_success go_outline)
        obtain ⟨p1, p2, p3⟩ := put_byte (z2 := (z : Int) / 256) (h2 := (h : Int) - 8) (h' := h - 8) HS.out hgrow4 hown4 HBK.out hg4 (by rw [← HZ.out, show 8 * (c + 1) = 8 * c + 8 by omega, Nat.pow_add, ← Nat.div_div_eq_div_mul]; rfl) (by omega)
        go_roundg ((h - 8) / 8)
        case measure => omega
        case rel => exact ⟨c + 1, h - 8, _, rfl, by omega, by omega, p1, hN.trans p2 hF.size, hN.out hF p3⟩
end Go.Proofs.YtciejmlhdmjajaaGreat

