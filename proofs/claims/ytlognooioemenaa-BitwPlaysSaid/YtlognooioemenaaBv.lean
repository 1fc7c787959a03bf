/- What the other calls of a writer of bits do: its length, its text, aligning, bytes, what none answers. -/
import Derived.Test.YtlognooioemenaaBw
import Derived.Laws.BytesArg
import Derived.Lib.AppendStr
import Derived.Deep.RegionHeld3
import Derived.Deep.RegionWith
namespace Go.Proofs.Ytlognooioemenaa
open Go.RowKit
set_option linter.unusedVariables false
set_option linter.unusedSimpArgs false
/-- An owned row of bytes, turned into a text. -/
theorem run_convert_own {P : Program} (w : World) (src dst e : TypeId) (hs : P.underlying src = some (.slice e)) (he : P.underlying e = some (.int .u8)) (hd : P.underlying dst = some .string)
    (base : Nat) (v : Value) (n : Nat) (l : List UInt8) (h : w.ownsRow base e 1 v n (Lib.byteCells l)) : (convert src dst v).run P w = .ok (.string ⟨l.toArray⟩) w := by
  have hln : l.length = n := by have := h.1; rw [Lib.byteCells_length] at this; omega
  rcases h.2 with ⟨rfl, h0⟩ | ⟨g, cap, cur, rfl, _, _⟩
  · have : l = [] := List.eq_nil_of_length_eq_zero (by omega)
    subst this
    exact run_convert_bytes_nil w src e hs he 0 0 dst hd
  · have hc := h.cells (g := g) rfl
    rw [run_convert_bytes_arg w src e hs he g 0 n cap (l.map fun b => (b.toNat : Int)) (by simpa using hln) (fun i hi => ?_) dst hd]
    · congr 2
      have e : List.map ((fun n : Int => UInt8.ofNat n.toNat) ∘ fun b : UInt8 => (b.toNat : Int)) l = l := by
        conv => rhs; rw [← List.map_id l]
        apply List.map_congr_left
        intro b _
        simp
      simp [strOfNums, e]
    · have hi' : i < l.length := by omega
      have := hc i (.int .u8 ((l[i]).toNat : Int)) (by simp [Lib.byteCells, List.getElem?_eq_getElem hi'])
      rw [show (⟨g, 0, none⟩ : Addr).add i = ⟨g, 0 + i, none⟩ by unfold Addr.add; split <;> simp_all] at this
      rw [this]
      simp [List.getD, List.getElem?_eq_getElem hi']

set_option maxHeartbeats 400000 in
theorem wlen_any (b : Nat) (v : Value) (N L most : Nat) (w : World) (hw : Wr w b v N L most) (hL : L ≤ 1000000000) :
    Calls Try.prog 30 #[.pointer (some ⟨b, 0, none⟩)] w fun e w' => e = .returned (.int .i64 L) ∧ ∃ n, w' = w.drewN n := by
  have hrow := hw.st.row
  have c0 := hw.st.c0
  have c2 := hw.st.c2
  obtain ⟨ao, cap, rfl⟩ : ∃ ao cap, v = .slice ao (L / 8) cap := by
    rcases hrow.2 with ⟨h, h0⟩ | ⟨g, cap, cur, h, _⟩
    · exact ⟨none, 0, by rw [h, h0]⟩
    · exact ⟨_, cap, h⟩
  have hq : L / 8 ≤ 1000000000 := by omega
  have hr : L % 8 < 8 := by omega
  have hqr : 8 * (L / 8) + L % 8 = L := by omega
  clear hw hrow
  generalize L / 8 = q at *
  generalize L % 8 = r at *
  have i1 : (q : Int) ≤ 1000000000 := by omega
  have i2 : (r : Int) < 8 := by omega
  have HQ := Lib.hid hqr
  clear hq hr hqr
  go_enter Try.func30, Try.ntmps30
  go_wp2
  go_quiet (fail)
  go_wp2
  go_ret
  exact ⟨ret_int (by have := HQ.out; omega), _, rfl⟩

/-- The text of a writer: its bits, noughts behind them. -/
def wtext (N L : Nat) : ByteArray := leb N ((L + 7) / 8)

set_option maxRecDepth 100000 in
set_option maxHeartbeats 800000 in
theorem wtext_any (b : Nat) (v : Value) (N L most : Nat) (w : World) (hw : Wr w b v N L most) (hL : L ≤ 1000000000) :
    Calls Try.prog 29 #[.pointer (some ⟨b, 0, none⟩)] w fun e w' => e = .returned (.string (wtext N L)) ∧ Fr [] w w' := by
  have hrow := hw.st.row
  have c0 := hw.st.c0
  have c1 := hw.st.c1
  have c2 := hw.st.c2
  have hblt := lt_of hw.st.blk
  by_cases h0 : L % 8 = 0
  · have ht : wtext N L = ⟨(lebL N (L / 8)).toArray⟩ := by simp [wtext, leb, show (L + 7) / 8 = L / 8 by omega]
    have hr := run_convert_own w 50 9 5 Try.underlying50 Try.underlying5 Try.underlying9 0 v _ _ hrow
    rw [← ht] at hr
    rw [h0] at c2
    clear ht hw hrow h0 c1
    go_enter Try.func29, Try.ntmps29
    go_wp2
    go_ret
    exact ⟨rfl, Fr.refl _ _⟩
  · have hr1 : L % 8 < 8 := by omega
    obtain ⟨z, hz⟩ : ∃ z, N / 2 ^ (8 * (L / 8)) = z := ⟨_, rfl⟩
    obtain ⟨r, hr⟩ : ∃ r, L % 8 = r := ⟨_, rfl⟩
    obtain ⟨k, hk'⟩ : ∃ k, z % 256 = k := ⟨_, rfl⟩
    have hk : IntKind.u8.wrap (z : Int) = (k : Int) := by rw [IntKind.wrap_u8]; omega
    have hne : ((r : Int) == 0) = false := by rw [beq_eq_false_iff_ne]; omega
    have ht : (⟨(lebL N (L / 8)).toArray⟩ : ByteArray) ++ (⟨#[UInt8.ofNat k]⟩ : ByteArray) = wtext N L := by
      have e1 : (L + 7) / 8 = L / 8 + 1 := by omega
      have e2 : lebL (N / 256 ^ (L / 8)) 1 = [UInt8.ofNat k] := by
        rw [pow256, hz, ← hk']
        simp only [lebL, List.cons.injEq, and_true]
        apply UInt8.toNat.inj; simp
      rw [wtext, leb, e1, lebL_add, e2]
      apply ByteArray.ext
      simp
    rw [hz] at c1
    rw [hr] at c2
    have HT := Lib.hid ht
    have hw2 : Wr (w.alloc (.cells #[.int .u8 (k : Int)] 5)) b v N L most := hw.to (Fr.alloc [] _ _) (by simp)
    have d0 := hw2.st.c0
    have d1 := hw2.st.c1
    rw [hz] at d1
    have r1 : (convert 50 9 v).run Try.prog w.drew = .ok (.string ⟨(lebL N (L / 8)).toArray⟩) w.drew := run_convert_own w.drew 50 9 5 Try.underlying50 Try.underlying5 Try.underlying9 0 v _ _ hrow
    have r2 : (convert 50 9 v).run Try.prog (w.alloc (.cells #[.int .u8 (k : Int)] 5)).drew = .ok (.string ⟨(lebL N (L / 8)).toArray⟩) (w.alloc (.cells #[.int .u8 (k : Int)] 5)).drew := run_convert_own (w.alloc (.cells #[.int .u8 (k : Int)] 5)).drew 50 9 5 Try.underlying50 Try.underlying5 Try.underlying9 0 v _ _ hw2.st.row
    have hk256 : k < 256 := by omega
    have hml : World.ownsRow (w.alloc (.cells #[.int .u8 (k : Int)] 5)) 0 5 1 (.slice (some ⟨w.heap.size, 0, none⟩) 1 1) 1 (Lib.byteCells [UInt8.ofNat k]) := by
      have := World.ownsRow_lit (e := 5) (size := 1) (base := 0) w #[.int .u8 (k : Int)] 1 (Nat.zero_le _) (by decide) rfl
      simpa [Lib.byteCells, Nat.mod_eq_of_lt hk256] using this
    have r3 : (convert 50 9 (.slice (some ⟨w.heap.size, 0, none⟩) 1 1)).run Try.prog (w.alloc (.cells #[.int .u8 (k : Int)] 5)).drew = .ok (.string ⟨#[UInt8.ofNat k]⟩) (w.alloc (.cells #[.int .u8 (k : Int)] 5)).drew := run_convert_own (w.alloc (.cells #[.int .u8 (k : Int)] 5)).drew 50 9 5 Try.underlying50 Try.underlying5 Try.underlying9 0 (.slice (some ⟨w.heap.size, 0, none⟩) 1 1) 1 _ hml.drew
    have sA : ((⟨(lebL N (L / 8)).toArray⟩ : ByteArray).size : Int) ≤ 1000000000 := by
      have : (⟨(lebL N (L / 8)).toArray⟩ : ByteArray).size = L / 8 := size_leb N (L / 8)
      omega
    have sB : ((⟨#[UInt8.ofNat k]⟩ : ByteArray).size : Int) ≤ 1 := Int.le_refl _
    have HZ := Lib.hid (And.intro hz (And.intro hr hk'))
    clear hz hr hk' hw hw2 hrow h0 hml HT
    generalize (⟨(lebL N (L / 8)).toArray⟩ : ByteArray) = TA at *
    generalize (⟨#[UInt8.ofNat k]⟩ : ByteArray) = TB at *
    have HT := Lib.hid ht
    clear ht
    go_enter Try.func29, Try.ntmps29
    go_wp2_with fail
    go_region_with (fail)
    all_goals
      go_wp2
      go_ret
      exact ⟨by rw [← HT.out]; rfl, Fr.drew (Fr.alloc [] w _)⟩

theorem wbits_err (b : Nat) (v : Value) (N L most n : Nat) (size : Int) (w : World) (hw : Wr w b v N L most) (hL : L ≤ 1000000000) (hm : most ≤ 9223372036854775807) (hn : n < 2 ^ 64) (he : wbE L most n size ≠ 0) :
    Calls Try.prog 28 #[.pointer (some ⟨b, 0, none⟩), .int .u64 n, .int .i64 size] w fun e w' => e = .returned (.int .i64 (wbE L most n size)) ∧ Fr [] w w' := by
  have HW := Lib.hid hw
  clear hw
  by_cases h0 : size < 0 ∨ 56 < size
  · have e : wbE L most n size = 2 := by unfold wbE; rw [if_pos (by rcases h0 with h | h <;> simp [h])]
    rw [e]; clear e he
    rcases h0 with h | h
    all_goals
      go_enter Try.func28, Try.ntmps28
      go_wp2_with fail
      go_step3
      go_wp2_with fail
      rw [Exit.noGoto_ret]
      go_ret
      exact ⟨rfl, Fr.refl _ _⟩
  obtain ⟨k, rfl⟩ := Int.eq_ofNat_of_zero_le (show 0 ≤ size by omega)
  have hk : k ≤ 56 := by omega
  have i1 : 0 ≤ (k : Int) := by omega
  have i2 : (k : Int) ≤ 56 := by omega
  clear h0
  by_cases h1 : 2 ^ k ≤ n
  · have e : wbE L most n k = 2 := by unfold wbE; rw [if_pos (by right; right; simpa using h1)]
    have hand := and_high n k hn hk
    obtain ⟨y, hy⟩ : ∃ y, n / 2 ^ k * 2 ^ k = y := ⟨_, rfl⟩
    have hyp : 0 < y := by
      rw [← hy]
      exact Nat.mul_pos (Nat.div_pos h1 (Nat.pow_pos (by decide))) (Nat.pow_pos (by decide))
    rw [hy] at hand
    have hne : ((y : Int) != 0) = true := by rw [bne_iff_ne]; omega
    rw [e]; clear e he hy h1
    go_enter Try.func28, Try.ntmps28
    go_wp2_with fail
    go_step3
    go_wp2_with fail
    refine (mask_any _ _).mono ?_
    rintro e w1 ⟨rfl, rfl⟩
    go_wp2_with fail
    rw [Exit.noGoto_ret]
    go_ret
    exact ⟨rfl, Fr.refl _ _⟩
  · have hroom : roomB L k most = false := by
      cases hr : roomB L k most with
      | false => rfl
      | true => exact absurd (show wbE L most n k = 0 by unfold wbE; rw [if_neg (by simp; omega)]; simp [hr]) he
    have e : wbE L most n k = 4 := by unfold wbE; rw [if_neg (by simp; omega)]; simp [hroom]
    have hand : bits .andNot .u64 (n : Int) (maskN (k : Int) : Int) = 0 := by rw [and_high n k hn hk, Nat.div_eq_of_lt (by omega)]; simp
    rw [e]; clear e he h1
    go_enter Try.func28, Try.ntmps28
    go_wp2_with fail
    go_step3
    go_wp2_with fail
    refine (mask_any _ _).mono ?_
    rintro e w1 ⟨rfl, rfl⟩
    go_wp2_with fail
    refine (room_any b v N L most k _ HW.out hL (by omega)).mono ?_
    rintro e w2 ⟨rfl, n1, rfl⟩
    go_wp2_with fail
    rw [Exit.noGoto_ret]
    go_ret
    exact ⟨rfl, Fr.drewN _ _ _⟩

/-- As many bits 0 as are wanting to a whole byte. -/
def pad (L : Nat) : Nat := (8 - L % 8) % 8

set_option maxHeartbeats 800000 in
theorem walign_any (b : Nat) (v : Value) (N L most : Nat) (w : World) (hw : Wr w b v N L most) (hL : L ≤ 900000000) (hm : most ≤ 9223372036854775807) :
    Calls Try.prog 32 #[.pointer (some ⟨b, 0, none⟩)] w fun e w' => e = .returned (.int .i64 0) ∧ ∃ v', Wr w' b v' N (L + pad L) most ∧ NewRow w v v' ∧ Fr (wfp b v) w w' := by
  have c2 := hw.st.c2
  have hrm := hw.rm
  have hp : bits .and .i64 (-((L % 8 : Nat) : Int)) 7 = (pad L : Int) := by rw [i64_and_7]; unfold pad; omega
  have hp8 : pad L < 8 := by unfold pad; omega
  have hrr : roomB L (pad L) most = true := by unfold roomB pad; apply decide_eq_true; omega
  obtain ⟨r, hr⟩ : ∃ r, L % 8 = r := ⟨_, rfl⟩
  obtain ⟨q, hq⟩ : ∃ q, pad L = q := ⟨_, rfl⟩
  rw [hr] at c2 hp
  rw [hq] at hp hp8 hrr ⊢
  have HW := Lib.hid hw
  have i1 : (r : Int) < 8 := by omega
  clear hw hr hq
  go_enter Try.func32, Try.ntmps32
  go_wp2_with fail
  refine (wbits_ok b v N L most 0 q _ HW.out (by omega) hm (by omega) (Nat.pow_pos (by decide)) hrr).mono ?_
  rintro e w2 ⟨rfl, v', h1, h2, h3⟩
  go_wp2_with fail
  go_ret
  exact ⟨rfl, v', by simpa using h1, h2, h3⟩

/-- 'append(row, s...)', s a text: the row is the elder one, or new. -/
theorem run_append_text {P : Program} (w : World) (t u ty e : TypeId) (i : TypeInfo) (ht : P.underlying t = some (.slice e)) (hu : P.underlying u = some .string) (hi : P.info? e = some i) (hz : i.zero = some (.int .u8 0))
    (hsize : i.size = 1) (hby : i.bytes = 1) (v : Value) (n : Nat) (xs : List Value) (hown : w.ownsRow 0 e 1 v n xs) (s : ByteArray) (h63 : n + s.size ≤ maxLen) (hbytes : n + s.size ≤ 140737488355328) :
    ∃ v' w', (Builtin.append_ #[t, u] ty #[v, .string s]).run P w = .ok v' w' ∧ w'.ownsRow 0 e 1 v' (n + s.size) (xs ++ Lib.strCells s) ∧ w.grownBy w' v.ownBlock ∧ NewRow w v v' := by
  obtain ⟨v', w', hr, h2, h3, h4⟩ := Lib.run_append_own_string (P := P) w 0 t u ty e i ht hu hi hz hsize hby v n xs hown s h63 hbytes (Nat.zero_le _)
  refine ⟨v', w', hr, h2, h3, ?_⟩
  have hxl : xs.length = n := by simpa using hown.1
  rcases hown.2 with ⟨rfl, rfl⟩ | ⟨g, cap, cur, rfl, hbg, hg, hnc, hcm, hcs, htake⟩
  · by_cases hm : s.size = 0
    · have : v' = .slice none 0 0 := h4.2 ⟨rfl, hm⟩
      subst this
      exact .inl rfl
    · have hr' := run_append_nil_string (P := P) w t u ty e i (.int .u8 0) ht hu hi hz s (by omega) (by unfold maxLen at h63; omega) (by rw [hby]; omega)
      rw [hr] at hr'
      injection hr' with hv hw'
      rw [hv]
      exact .inr ⟨w.heap.size, rfl, Nat.le_refl _⟩
  · by_cases hroom : n + s.size ≤ cap
    · have hcs' : cur.size = cap := by simpa using hcs
      have hr' := Lib.run_append_room_string (P := P) w t u ty e i ht hu hi hsize g n cap cur hg s hroom (by omega)
      rw [hr] at hr'
      injection hr' with hv hw'
      rw [hv]
      exact .inl rfl
    · have holds : ∀ j u, xs[j]? = some u → w.cell? ((⟨g, 0, none⟩ : Addr).add j) = some u := hown.cells (g := g) rfl
      have hr' := Lib.run_append_grow_string (P := P) w t u ty e i (.int .u8 0) ht hu hi hz ⟨g, 0, none⟩ n cap xs (by rw [hsize]; simpa using hxl) holds s (by omega) (by unfold maxLen at h63; omega) (by rw [hby]; exact growslice_fits (by omega) (by omega))
      rw [hr] at hr'
      injection hr' with hv hw'
      rw [hv]
      exact .inr ⟨w.heap.size, rfl, Nat.le_refl _⟩

theorem wpList_append_text {P : Program} (w : World) {ops : Array Oper} {rest : List Oper} {o : Oper} {a : Act} {Q : Exit → Act → World → Prop} (hgd : o.guard = none) (sl x : Operand) (t u : TypeId)
    (ho : o.op = .call { callee := .builtin .append, args := #[sl, x], argTypes := #[t, u] })
    (e : TypeId) (i : TypeInfo) (ht : P.underlying t = some (.slice e)) (hu : P.underlying u = some .string) (hi : P.info? e = some i) (hz : i.zero = some (.int .u8 0)) (hsize : i.size = 1) (hby : i.bytes = 1)
    (v : Value) (n : Nat) (xs : List Value) (hs : a.eval sl = v) (hown : w.ownsRow 0 e 1 v n xs) (s : ByteArray) (hx : a.eval x = .string s) (h63 : n + s.size ≤ maxLen) (hbytes : n + s.size ≤ 140737488355328)
    (h : ∀ v' w', w'.ownsRow 0 e 1 v' (n + s.size) (xs ++ Lib.strCells s) → w.grownBy w' v.ownBlock → NewRow w v v' → wpList P ops Q rest (a.put o.dst v') w') : wpList P ops Q (o :: rest) a w := by
  refine wpList_plain hgd fun K hK => ?_
  obtain ⟨v', w', hr, h2, h3, h4⟩ := run_append_text (P := P) w t u o.type e i ht hu hi hz hsize hby v n xs hown s h63 hbytes
  unfold Oper.wp execOp
  simp only [ho, resolve, invoke, builtin, Sem.run_bind, Sem.run_pure, Result.andThen_ok, List.map_toArray, List.map_cons, List.map_nil, hs, hx, hr]
  exact hK _ _ (h v' w' h2 h3 h4)

theorem row_form {w : World} {base : Nat} {e : TypeId} {size : Nat} {v : Value} {n : Nat} {xs : List Value} (h : w.ownsRow base e size v n xs) : ∃ ao cap, v = .slice ao n cap := by
  rcases h.2 with ⟨h, h0⟩ | ⟨g, cap, cur, h, _⟩
  · exact ⟨none, 0, by rw [h, h0]⟩
  · exact ⟨_, cap, h⟩

/-- Is there no room for so many bytes more? -/
def wbytesE (L most : Nat) (s : ByteArray) : Int := if (L + 7) / 8 + s.size ≤ most then 0 else 4

theorem grown_blk0 {w w4 : World} {b : Nat} {v : Value} {X c h most : Nat} (k : WrS w b v X c h most) (g : w.grownBy w4 v.ownBlock) : w4.heap[b]? = some (.cells (wcells v (X / 2 ^ (8 * c)) h most) 93 (0, 0)) := by
  rw [g.block b (lt_of k.blk) (fun e => k.ne e.symm)]
  exact k.blk
theorem grown_fr0 {w w4 : World} {b : Nat} {v : Value} (g : w.grownBy w4 v.ownBlock) : Fr (wfp b v) w w4 :=
  ⟨g.os, g.tape, g.output, g.size, fun i hi hl => g.block i hi (fun e => hl (by simp [wfp, ← e]))⟩

theorem bytes_put (N L : Nat) (s : ByteArray) (hL : L % 8 = 0) (hN : N < 2 ^ L) : Lib.byteCells (lebL N (L / 8)) ++ Lib.strCells s = Lib.byteCells (lebL (N + num s * 2 ^ L) ((L + 8 * s.size) / 8)) ∧
    (N + num s * 2 ^ L) / 2 ^ (8 * ((L + 8 * s.size) / 8)) = 0 ∧ N + num s * 2 ^ L < 2 ^ (L + 8 * s.size) := by
  have e8 : (L + 8 * s.size) / 8 = L / 8 + s.size := by omega
  have eL : 2 ^ L = 256 ^ (L / 8) := by rw [pow256]; congr 1; omega
  have hlt := new_lt N (num s) L (8 * s.size) hN (num_lt s)
  refine ⟨?_, ?_, hlt⟩
  · rw [e8, lebL_add]
    have e1 : lebL (N + num s * 2 ^ L) (L / 8) = lebL N (L / 8) := lebL_same N (num s) L
    have e2 : (N + num s * 2 ^ L) / 256 ^ (L / 8) = num s := by
      rw [eL, Nat.add_mul_div_right _ _ (Nat.pow_pos (by decide)), Nat.div_eq_of_lt (by rw [← eL]; exact hN), Nat.zero_add]
    have e3 : lebL (num s) s.size = s.data.toList := by
      have := lebL_numL s.data.toList
      simpa [num] using this
    rw [e1, e2, e3]
    simp [Lib.byteCells, Lib.strCells]
  · apply Nat.div_eq_of_lt
    rw [show 8 * ((L + 8 * s.size) / 8) = L + 8 * s.size by omega]
    exact hlt

set_option maxRecDepth 100000 in
set_option maxHeartbeats 800000 in
theorem wbytes_any (b : Nat) (v : Value) (N L most : Nat) (s : ByteArray) (w : World) (hw : Wr w b v N L most) (hL : L ≤ 100000000) (hs : s.size ≤ 10000000) (hm : most ≤ 9223372036854775807) :
    Calls Try.prog 31 #[.pointer (some ⟨b, 0, none⟩), .string s] w fun e w' => e = .returned (.int .i64 (wbytesE L most s)) ∧
      ∃ v', (if wbytesE L most s = 0 then Wr w' b v' (N + num s * 2 ^ (L + pad L)) (L + pad L + 8 * s.size) most else Wr w' b v' N L most) ∧ NewRow w v v' ∧ Fr (wfp b v) w w' := by
  have c2 := hw.st.c2
  have c3 := hw.st.c3
  have hrm := hw.rm
  have hp : bits .and .i64 (-((L % 8 : Nat) : Int)) 7 = (pad L : Int) := by rw [i64_and_7]; unfold pad; omega
  have hp8 : pad L < 8 := by unfold pad; omega
  have hpl : (L + pad L) % 8 = 0 := by unfold pad; omega
  have hpe : (L + pad L) / 8 = (L + 7) / 8 := by unfold pad; omega
  obtain ⟨r, hr⟩ : ∃ r, L % 8 = r := ⟨_, rfl⟩
  rw [hr] at c2 hp
  have i1 : (r : Int) < 8 := by omega
  have i2 : (s.size : Int) ≤ 10000000 := by omega
  have i3 : (most : Int) ≤ 9223372036854775807 := by omega
  have HW := Lib.hid hw
  by_cases hbig : most < s.size
  · have e : wbytesE L most s = 4 := by unfold wbytesE; rw [if_neg (by omega)]
    rw [e]; clear e hr hp
    go_enter Try.func31, Try.ntmps31
    go_wp2_with fail
    go_ret
    exact ⟨rfl, v, HW.out, NewRow.refl _ _, Fr.refl _ _⟩
  obtain ⟨q, hq⟩ : ∃ q, pad L = q := ⟨_, rfl⟩
  rw [hq] at hp hp8 hpl hpe ⊢
  have hsz : (q : Int) + 8 * (s.size : Int) = ((q + 8 * s.size : Nat) : Int) := by omega
  obtain ⟨t, ht⟩ : ∃ t, q + 8 * s.size = t := ⟨_, rfl⟩
  rw [ht] at hsz
  have hroom : roomB L t most = decide ((L + 7) / 8 + s.size ≤ most) := by unfold roomB; apply decide_eq_decide.2; omega
  by_cases hfit : (L + 7) / 8 + s.size ≤ most
  · have e : wbytesE L most s = 0 := by unfold wbytesE; rw [if_pos hfit]
    have hrt : roomB L t most = true := by rw [hroom]; exact decide_eq_true hfit
    rw [e]
    have HQ := Lib.hid hq
    have HPE := Lib.hid hpe
    clear e hr hroom hw hq hpe
    have i5 : (q : Int) < 8 := by omega
    go_enter Try.func31, Try.ntmps31
    go_wp2_with fail
    refine (room_any b v N L most t _ HW.out (by omega) (by omega)).mono ?_
    rintro e w2 ⟨rfl, n1, rfl⟩
    go_wp2_with fail
    refine (walign_any b v N L most _ (HW.out.to (Fr.drewN [] _ n1) (by simp)) (by omega) hm).mono ?_
    rintro e w3 ⟨rfl, v2, hw3, hN3, hF3⟩
    rw [HQ.out] at hw3
    replace hN3 : NewRow w v v2 := hN3
    replace hF3 : Fr (wfp b v) w w3 := (Fr.drewN _ w n1).trans hF3
    have c0 := hw3.st.c0
    obtain ⟨i0, hi, hz0, hz1, hz2⟩ := u8info
    have HI0 := Lib.hid hi
    have HIz := Lib.hid hz0
    have HIs := Lib.hid hz1
    have HIb := Lib.hid hz2
    have hpe' := HPE.out
    have hc1 : (L + q) / 8 + s.size ≤ maxLen := by unfold maxLen; omega
    have hc2 : (L + q) / 8 + s.size ≤ 140737488355328 := by omega
    obtain ⟨p1, p2, p3⟩ := bytes_put N (L + q) s hpl hw3.lt
    clear hpe'
    have HP1 := Lib.hid p1
    have HP2 := Lib.hid p2
    have HP3 := Lib.hid p3
    have HW3 := Lib.hid hw3
    clear hi hz0 hz1 hz2 p1 p2 p3 hw3 HW
    go_wp2_with (at_builtin; go_must (refine wpList_append_text _ rfl (.tmp 37) (.tmp 38) 50 9 rfl 5 i0 Try.underlying50 Try.underlying9 HI0.out HIz.out HIs.out HIb.out v2 _ _ rfl HW3.out.st.row s rfl hc1 hc2 ?_); intro v4 w4 hown4 hgrow4 hnew4; obtain ⟨ao4, cap4, rfl⟩ := row_form hown4; have k0 : w4.cell? ⟨b, 0, none⟩ = some v2 := cell_of (grown_blk0 HW3.out.st hgrow4) 0; have e0 := free_of (grown_blk0 HW3.out.st hgrow4) 0)
    go_ret
    refine ⟨rfl, _, ?_, hN3.trans hnew4 hF3.size, hN3.out hF3 ((grown_fr0 hgrow4).trans ((Fr.setCell _ _ _ _).mono (by simp [wfp])))⟩
    have hb := grown_blk0 HW3.out.st hgrow4
    have hne : (Value.slice ao4 ((L + q) / 8 + s.size) cap4).ownBlock ≠ some b := by
      rcases hnew4 with h | ⟨g, hg, hk⟩
      · rw [h]; exact HW3.out.st.ne
      · rw [hg]; intro h; cases h; have := lt_of HW3.out.st.blk; omega
    have hx0 : N / 2 ^ (8 * ((L + q) / 8)) = 0 := by
      apply Nat.div_eq_of_lt
      rw [show 8 * ((L + q) / 8) = L + q by omega]
      exact HW3.out.lt
    refine ⟨⟨?_, ?_, hne⟩, HP3.out, by have := HPE.out; omega⟩
    · have := set_of hb 0 (Value.slice ao4 ((L + q) / 8 + s.size) cap4)
      rw [HP2.out]
      rw [hx0] at this
      simpa [wcells, hpl, show (L + q + 8 * s.size) % 8 = 0 by omega] using this
    · rw [← HP1.out, show (L + q + 8 * s.size) / 8 = (L + q) / 8 + s.size by omega]
      exact ownsRow_setCell_other hown4 hne _
  · have e : wbytesE L most s = 4 := by unfold wbytesE; rw [if_neg hfit]
    have hrt : roomB L t most = false := by rw [hroom]; exact decide_eq_false hfit
    rw [e]
    have HQ := Lib.hid hq
    clear e hr hroom hw hq
    have i5 : (q : Int) < 8 := by omega
    go_enter Try.func31, Try.ntmps31
    go_wp2_with fail
    refine (room_any b v N L most t _ HW.out (by omega) (by omega)).mono ?_
    rintro e w2 ⟨rfl, n1, rfl⟩
    go_wp2_with fail
    go_ret
    exact ⟨rfl, v, HW.out.to (Fr.drewN [] _ _) (by simp), NewRow.refl _ _, Fr.drewN _ _ _⟩

theorem wnew_any (most : Int) (w : World) (hm : most ≤ 9223372036854775807) :
    Calls Try.prog 27 #[.int .i64 most] w fun e w' => e = .returned (.pointer (some ⟨w.heap.size, 0, none⟩)) ∧ Wr w' w.heap.size (.slice none 0 0) 0 0 most.toNat ∧ Fr [] w w' := by
  obtain ⟨m, e1⟩ : ∃ m : Nat, max most 0 = (m : Int) := ⟨most.toNat, by omega⟩
  rw [show most.toNat = m by omega]
  go_enter Try.func27, Try.ntmps27
  go_wp2
  go_ret
  refine ⟨rfl, ⟨⟨?_, ?_, by simp [Value.ownBlock]⟩, by simp, by simp⟩, Fr.alloc _ _ _⟩
  · have := new_of w (.cells #[.slice none 0 0, .int .u64 0, .int .i64 0, .int .i64 (m : Int)] 93)
    simpa [wcells] using this
  · exact World.ownsRow_nil _ _ _ _

theorem wcode_any (p : Value) (bits sz n : Int) (w : World) (Q : World → Prop) (h : ∀ w1 : World, Fr [] w w1 → Calls Try.prog 28 #[p, .int .u64 bits, .int .i64 sz] w1 fun e w2 => e = .returned (.int .i64 n) ∧ Q w2)
    (hb0 : 0 ≤ bits) (hb1 : bits ≤ 4294967295) (hs0 : 0 ≤ sz) (hs1 : sz ≤ 255) :
    Calls Try.prog 37 #[p, .agg #[.int .u32 bits, .int .u8 sz]] w fun e w2 => e = .returned (.int .i64 n) ∧ Q w2 := by
  have H := Lib.hid h
  clear h
  go_enter Try.func37, Try.ntmps37
  go_wp2_with fail
  refine (H.out _ (Fr.alloc _ _ _)).mono ?_
  rintro e w1 ⟨rfl, hq⟩
  have HQ := Lib.hid hq
  clear hq
  go_wp2_with fail
  go_ret
  exact ⟨rfl, HQ.out⟩
end Go.Proofs.Ytlognooioemenaa
