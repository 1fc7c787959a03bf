/- PackNone: its walk. -/
import Derived.Test.YtmajacfcfdljeaaPn
import Derived.Deep.RegionHeld3
import Derived.Deep.AppendLies
namespace Go.Proofs.Ytmajacfcfdljeaa
open Go.RowKit
set_option linter.unusedVariables false
set_option linter.unusedSimpArgs false

theorem elemI : Elem Try.prog 22 3 1 8 := by
  refine ⟨Try.underlying22, ?_⟩
  obtain ⟨i0, hi, hz0, hz1, hz2⟩ := info_parts (show (Try.prog.info? 3).map (fun i => (i.zero, i.size, i.bytes)) = some (some (.int .i64 0), 1, 8) by kernel_rfl)
  exact ⟨i0, _, hi, hz0, hz1, hz2, rfl, by decide⟩
/-- 'append(row, xs...)' at a step of a region that draws; the row is the call's own, xs may be empty. -/
theorem step_catz {wo W : World} {ops : Array Oper} {o : Oper} {a : Act} {K : Act → World → Prop} {Q : Exit → Act → World → Prop} {X : Prop} (hgd : o.guard = none) (s x : Operand)
    (ho : o.op = .call { callee := .builtin .append, args := #[s, x], argTypes := #[22, 22] })
    (N n c0 : Nat) (xs : List Value) (hs : a.eval s = .slice (some ⟨N, 0, none⟩) n c0) (hown : W.ownsRow wo.heap.size 3 1 (.slice (some ⟨N, 0, none⟩) n c0) n xs) (hfr : Fr [] wo W)
    (ad : Addr) (m c : Nat) (news : List Value) (hx : a.eval x = .slice (some ad) m c) (hl : news.length = m) (hnews : ∀ j u, news[j]? = some u → W.cell? (ad.add j) = some u) (h1 : ∀ u ∈ news, u.oneCell' = true)
    (nm : Nat) (hnm : n + m = nm) (hnm2 : nm ≤ 1000)
    (h : ∀ g cap w', Hid (w'.ownsRow wo.heap.size 3 1 (.slice (some ⟨g, 0, none⟩) nm cap) nm (xs ++ news) ∧ W.grownBy w' (some N) ∧ Fr [] wo w') → K (a.put o.dst (.slice (some ⟨g, 0, none⟩) nm cap)) w') :
    if Region.wanted o (yielded ops a.tmps) = true then Oper.wp Try.prog o a W K Q else X := by
  subst hnm
  have hw : Region.wanted o (yielded ops a.tmps) = true := by simp [Region.wanted, hgd]
  rw [if_pos hw]
  obtain ⟨ht, i, z, hi, hz, hsz, hby, hzs, hpos⟩ := elemI
  have hlt := hown.lt N rfl
  refine wp_append_own W s x 22 ho wo.heap.size 3 i z 1 8 ht hi hz hsz hby hzs hpos _ n xs hs hown ad m c news hx (by omega) hnews h1 (by unfold maxLen; omega) (by omega) (by omega) ?_
  intro v' w' k1 k2 k3
  rcases k1.2 with ⟨hv, _⟩ | ⟨g, cap, cur, hv, _⟩
  · have := (k3.1 hv).1; simp at this
  · subst hv
    have hsz := hfr.size
    exact h g cap w' (Lib.hid ⟨k1, k2, k2.os.trans hfr.os, k2.tape.trans hfr.tape, k2.output.trans hfr.output, Nat.le_trans hfr.size k2.size, fun k hk _ => (k2.block k (by omega) (by simp [Value.ownBlock]; omega)).trans (hfr.block k hk (by simp))⟩)
theorem own_empty {w : World} {B N : Nat} (h : w.heap[N]? = some (.cells #[] 3 (0, 0))) (hB : B ≤ N) : w.ownsRow B 3 1 (.slice (some ⟨N, 0, none⟩) 0 0) 0 [] :=
  ⟨rfl, .inr ⟨N, 0, #[], rfl, hB, h, Nat.le_refl _, by unfold maxLen; omega, rfl, rfl⟩⟩
/-- A part of a row of numbers, as what is appended. -/
theorem news_irow {w : World} {g n o m : Nat} {F : Nat → Nat} (h : Nrow w g 3 .i64 n F) (hm : o + m ≤ n) : ∀ j u, ((List.range m).map fun i => Value.int .i64 (F (o + i) : Int))[j]? = some u → w.cell? ((⟨g, o, none⟩ : Addr).add j) = some u := fun j u hu => by
  have hj : j < m := by have := (List.getElem?_eq_some_iff.1 hu).1; simpa using this
  rw [add_none, h.cell (o + j) (by omega), ← hu, List.getElem?_map, List.getElem?_range hj]
  rfl
theorem one_irow (m o : Nat) (F : Nat → Nat) : ∀ u ∈ (List.range m).map fun i => Value.int .i64 (F (o + i) : Int), u.oneCell' = true := by
  intro u hu
  obtain ⟨i, _, rfl⟩ := List.mem_map.1 hu
  rfl
/-- The counts' row is as it was, and nothing that was there has turned. -/
def SS (wo : World) (gc n : Nat) (F : Nat → Nat) (w : World) : Prop := Nrow w gc 3 .i64 n F ∧ Fr [] wo w
theorem SS.alloc {wo : World} {gc n : Nat} {F : Nat → Nat} {w : World} {o : Obj} (h : SS wo gc n F w) : SS wo gc n F (w.alloc o) := ⟨h.1.to (Fr.alloc [] w o) (by simp), h.2.trans (Fr.alloc _ _ _)⟩
theorem SS.drew {wo : World} {gc n : Nat} {F : Nat → Nat} {w : World} (h : SS wo gc n F w) : SS wo gc n F w.drew := ⟨h.1.to (Fr.drew (Fr.refl [] w)) (by simp), h.2.drew⟩
theorem SS.grow {wo : World} {gc n : Nat} {F : Nat → Nat} {w w' : World} {N : Nat} (h : SS wo gc n F w) (hgc : gc < wo.heap.size) (hg : w.grownBy w' (some N)) (hN : wo.heap.size ≤ N) : SS wo gc n F w' := by
  have hsz := h.2.size
  refine ⟨?_, hg.os.trans h.2.os, hg.tape.trans h.2.tape, hg.output.trans h.2.output, Nat.le_trans h.2.size hg.size, fun k hk _ => (hg.block k (by omega) (by simp; omega)).trans (h.2.block k hk (by simp))⟩
  unfold Nrow
  rw [hg.block gc (by omega) (by simp; omega)]
  exact h.1
theorem blk_grow {w w' : World} {N b : Nat} {o : Obj} (hg : w.grownBy w' (some N)) (hb : w.heap[b]? = some o) (hne : b ≠ N) : w'.heap[b]? = some o := by
  rw [hg.block b (lt_of hb) (by simpa using hne)]; exact hb
/-- What holds at the head of a round of the loop that fills the counts. -/
def FillN (w : World) (gc n : Nat) (F : Nat → Nat) (v9 : Value) (wr : World) : Prop :=
  ∃ j : Nat, v9 = .int .i64 (j : Int) ∧ j ≤ n ∧ Nrow wr gc 3 .i64 n (fun s => if s < j then F s else 0) ∧ Fr [] w wr
/-- The counts, one put in that does not count. -/
def PutMade (wo : World) (l : List Int) (n1 : Nat) (v11 : Value) (wx : World) : Prop :=
  ∃ gm cm, v11 = .slice (some ⟨gm, 0, none⟩) n1 cm ∧ l.length = n1 ∧ SlOf (Zn .i64) 1 wx (some ⟨gm, 0, none⟩) l ∧ Fr [] wo wx
theorem put_len (l : List Int) (k : Nat) (hk : k ≤ l.length) : (l.take k ++ 0 :: l.drop k).length = l.length + 1 := by
  rw [List.length_append, List.length_cons, List.length_take, List.length_drop]; omega
theorem putMade_of {wo w : World} {F : Nat → Nat} {n k m g cap n1 : Nat} {xs : List Value} (hk : k ≤ n) (hm : m = n - k) (hn1 : n + 1 = n1) (h : w.ownsRow wo.heap.size 3 1 (.slice (some ⟨g, 0, none⟩) n1 cap) n1 xs)
    (hx : xs = (([] ++ (List.range k).map fun i => Value.int .i64 (F (0 + i) : Int)) ++ [.int .i64 0]) ++ (List.range m).map fun i => Value.int .i64 (F (k + i) : Int)) (hf : Fr [] wo w) : PutMade wo ((ctL F n).take k ++ 0 :: (ctL F n).drop k) n1 (.slice (some ⟨g, 0, none⟩) n1 cap) w := by
  subst hm
  have hlen : ((ctL F n).take k ++ 0 :: (ctL F n).drop k).length = n1 := by rw [put_len _ _ (by rw [ctL_len]; exact hk), ctL_len, hn1]
  have hfl : xs = ((ctL F n).take k ++ 0 :: (ctL F n).drop k).flatMap (Zn .i64) := by
    have e : ctL F n = (List.range k).map (fun i => (F (0 + i) : Int)) ++ (List.range (n - k)).map fun i => (F (k + i) : Int) := by
      unfold ctL
      conv => lhs; rw [show n = k + (n - k) by omega, List.range_add, List.map_append, List.map_map]
      congr 1
      exact List.map_congr_left fun i _ => by rw [Nat.zero_add]
    have e1 : (ctL F n).take k = (List.range k).map (fun i => (F (0 + i) : Int)) := by rw [e, List.take_left' (by simp)]
    have e2 : (ctL F n).drop k = (List.range (n - k)).map fun i => (F (k + i) : Int) := by rw [e, List.drop_left' (by simp)]
    rw [hx, e1, e2, List.flatMap_append, List.flatMap_cons, List.flatMap_map, List.flatMap_map, List.nil_append, List.append_assoc]
    have hg : ∀ (f : Nat → Int) (l : List Nat), l.flatMap (fun i => Zn .i64 (f i)) = l.map fun i => Value.int .i64 (f i) := by
      intro f l
      induction l with
      | nil => rfl
      | cons x l ih => rw [List.flatMap_cons, List.map_cons, ih]; rfl
    rw [hg (fun i => (F (0 + i) : Int)), hg (fun i => (F (k + i) : Int))]
    rfl
  subst hfl
  obtain ⟨a0, c, h1, h2⟩ := slOf_own (enc := Zn .i64) (fun _ => rfl) h hlen.symm
  simp at h1
  obtain ⟨rfl, _, rfl⟩ := h1
  exact ⟨g, cap, rfl, hlen, h2, hf⟩
/-- pack.Lens, of counts among which one is put that does not count. -/
theorem lens_put_row (g n k n1 cp M : Nat) (F : Nat → Nat) (w : World) (hS : SlOf (Zn .i64) 1 w (some ⟨g, 0, none⟩) ((ctL F n).take k ++ 0 :: (ctL F n).drop k)) (hlen : ((ctL F n).take k ++ 0 :: (ctL F n).drop k).length = n1) (hk : k ≤ n) (hn : n ≤ 300) (hF : ∀ i, i < n → F i ≤ 1073741824) (h1 : 1 ≤ M) (h2 : M ≤ 15) :
    Calls Try.prog 9 #[.slice (some ⟨g, 0, none⟩) n1 cp, .int .i64 (M : Int)] w fun e w' => Fr [] w w' ∧ (M < needN (posN F n : Int) ∧ e = .returned (.tuple #[.slice none 0 0, .int .i64 2]) ∨ needN (posN F n : Int) ≤ M ∧ ∃ gl, e = .returned (.tuple #[.slice (some ⟨gl, 0, none⟩) n1 n1, .int .i64 0]) ∧ w.heap.size ≤ gl ∧ Nrow w' gl 5 .u8 n1 (lenS ((ctL F n).take k ++ 0 :: (ctL F n).drop k) M)) := by
  have hk' : k ≤ (ctL F n).length := by rw [ctL_len]; exact hk
  have hl := put_len (ctL F n) k hk'
  rw [ctL_len] at hl
  have hgood : ¬ badC ((ctL F n).take k ++ 0 :: (ctL F n).drop k) := badC_not (by omega) fun x hx => by
    rcases List.mem_append.1 hx with hx | hx
    · have := ctL_mem hF x (List.mem_of_mem_take hx); omega
    · rcases List.mem_cons.1 hx with rfl | hx
      · omega
      · have := ctL_mem hF x (List.mem_of_mem_drop hx); omega
  have hiff : badP ((ctL F n).take k ++ 0 :: (ctL F n).drop k) (M : Int) ↔ M < needN (posN F n : Int) := by
    unfold badP
    rw [sortC_put _ k hk', List.length_map, ← posN_sort]
    constructor
    · rintro (h' | h' | h' | h')
      · exact absurd h' hgood
      · omega
      · omega
      · omega
    · intro h'; exact .inr (.inr (.inr (by omega)))
  have h := lens_any (some ⟨g, 0, none⟩) cp ((ctL F n).take k ++ 0 :: (ctL F n).drop k) (M : Int) w hS (by omega) (by omega) (by omega)
  rw [hlen, Int.toNat_natCast] at h
  refine h.mono fun e w' ⟨k1, k2⟩ => ⟨k1, ?_⟩
  rcases k2 with ⟨k2, k3⟩ | ⟨k2, k3⟩
  · exact .inl ⟨hiff.1 k2, k3⟩
  · rw [hiff] at k2
    exact .inr ⟨by omega, k3⟩
theorem keep17 {w3 W : World} {gb k z : Nat} (h : Hid (w3.cell? ⟨gb, k, none⟩ = some (.int .u8 (z : Int)) ∧ gb < w3.heap.size)) (f : Fr [] w3 W) : Fr [] w3 W ∧ W.cell? ⟨gb, k, none⟩ = some (.int .u8 (z : Int)) :=
  ⟨f, by rw [f.below.cell (p := ⟨gb, k, none⟩) h.out.2]; exact h.out.1⟩
theorem sl_part {w : World} {g n o m : Nat} {F : Nat → Nat} (h : Nrow w g 5 .u8 n F) (hm : o + m ≤ n) : SlOf U8 1 w (some ⟨g, o, none⟩) ((List.range m).map fun i => F (o + i)) := fun _ => by
  refine ⟨g, o, rfl, lt_of h, fun i x hi j u hu => ?_⟩
  have hj : j = 0 := by
    have := (List.getElem?_eq_some_iff.1 hu).1
    simp [U8] at this
    exact this
  subst hj
  have hin : i < m := by have := (List.getElem?_eq_some_iff.1 hi).1; simpa using this
  rw [List.getElem?_map, List.getElem?_range hin] at hi
  simp at hi
  subst hi
  rw [Nat.mul_one, Nat.add_zero, h.cell (o + i) (by omega), ← hu]
  rfl
set_option maxRecDepth 2000000 in
set_option maxHeartbeats 6400000 in
theorem packNone_walk (w : World) (a0 : Option Addr) (c0 : Nat) (x0 : List Nat) (l0 : x0.length ≤ maxLen) (s0 : SlOf (Un .u16) 1 w a0 x0) (o0 : ∀ x, x ∈ x0 → x < 65536) (a1 : Int) (w1 : (Lit.int .u8 a1).wf = true) (a2 : Int) (w2 : (Lit.int .u16 a2).wf = true) :
    Calls Try.prog 6 #[.slice a0 x0.length c0, .int .u8 a1, .int .u16 a2] w fun e w' => e = .returned (.bool true) ∧ Below w.heap.size w w' := by
  unfold maxLen at l0
  have hl1 : (x0.length : Int) ≤ 9223372036854775807 := by omega
  have HA := Lib.hid alive_any
  have ha1 : 0 ≤ a1 ∧ a1 ≤ 255 := by simp [Lit.wf, IntKind.min, IntKind.max, IntKind.signed, IntKind.bits] at w1; omega
  have ha2 : 0 ≤ a2 ∧ a2 ≤ 65535 := by simp [Lit.wf, IntKind.min, IntKind.max, IntKind.signed, IntKind.bits] at w2; omega
  obtain ⟨ha3, ha4⟩ := ha1
  obtain ⟨ha5, ha6⟩ := ha2
  clear w1 w2
  by_cases hbig : 100 < x0.length
  · have h1 : (100 : Int) < (x0.length : Int) := by omega
    clear hbig s0 o0 l0
    go_enter Try.func6, Try.ntmps6
    go_wp2_with fail
    refine (HA.out _).mono ?_
    rintro e w1 ⟨rfl, hf⟩
    have HF := Lib.hid hf
    clear hf
    go_wp2_with fail
    go_ret
    exact ⟨rfl, HF.out.below⟩
  obtain ⟨n, hn⟩ : ∃ n, x0.length = n := ⟨_, rfl⟩
  rw [hn] at hbig hl1 ⊢
  have h1 : (n : Int) ≤ 100 := by omega
  obtain ⟨q, hq⟩ : ∃ q : Nat, a1 % 15 = (q : Int) := ⟨(a1 % 15).toNat, by omega⟩
  have hq14 : q ≤ 14 := by omega
  obtain ⟨M, hM⟩ : ∃ M, q + 1 = M := ⟨_, rfl⟩
  have hqi : (q : Int) ≤ 14 := by omega
  have eM : (q : Int) + 1 = (M : Int) := by omega
  have hM15 : (M : Int) ≤ 15 := by omega
  have hM1 : 1 ≤ (M : Int) := by omega
  obtain ⟨n1, hn1⟩ : ∃ n1, n + 1 = n1 := ⟨_, rfl⟩
  have en1 : (n : Int) + 1 = (n1 : Int) := by omega
  have hn1i : 1 ≤ (n1 : Int) := by omega
  have hn1j : (n1 : Int) ≤ 101 := by omega
  obtain ⟨k, hk⟩ : ∃ k : Nat, a2 % (n1 : Int) = (k : Int) := ⟨(a2 % (n1 : Int)).toNat, by have := Int.emod_nonneg a2 (show (n1 : Int) ≠ 0 by omega); omega⟩
  have hkn : k ≤ n := by have := Int.emod_lt_of_pos a2 (show 0 < (n1 : Int) by omega); omega
  have hki : (k : Int) ≤ (n : Int) := by omega
  obtain ⟨F, hF⟩ : ∃ F : Nat → Nat, F = fun s => x0.getD s 0 := ⟨_, rfl⟩
  have hFb : ∀ s, F s ≤ 65535 := fun s => by
    rw [hF]
    simp only [List.getD_eq_getElem?_getD]
    cases hs : x0[s]? with
    | none => simp
    | some x => have := o0 x (List.mem_of_getElem? hs); simp only [Option.getD_some]; omega
  have HX := Lib.hid (And.intro s0 (And.intro o0 (And.intro hn (And.intro hF (And.intro hFb (And.intro hn1 hbig))))))
  have hmk := run_make_nats w n (by omega)
  have hN0 := Lib.hid (made_nats w n)
  clear s0 o0 hn hF hFb hbig l0 hq14 hM hn1
  go_enter Try.func6, Try.ntmps6
  go_wp2_with fail
  go_loopw [9] (fun v9 wr => FillN w w.heap.size n F v9 wr) (fun v9 _ => n - (intOf v9).toNat)
  case atStart => exact ⟨0, rfl, Nat.zero_le _, hN0.out.congr fun s _ => by simp, Fr.alloc [] _ _⟩
  case round =>
    obtain ⟨j, rfl, hj, hN, hf⟩ := hrel
    by_cases hjn : j < n
    · have hji : (j : Int) < (n : Int) := by omega
      obtain ⟨x, hx⟩ : ∃ x, x0[j]? = some x := ⟨x0[j]'(by have := HX.out.2.2.1; omega), List.getElem?_eq_getElem _⟩
      obtain ⟨g1, o1, rfl, hb1, hc1⟩ := (HX.out.1.below hf.below) (by intro h; rw [h] at hx; simp at hx)
      have c1 := hc1 j x hx 0 (.int .u16 (x : Int)) rfl
      rw [Nat.mul_one, Nat.add_zero] at c1
      have hx16 := HX.out.2.1 x (List.mem_of_getElem? hx)
      have hFj : F j = x := by rw [HX.out.2.2.2.1]; simp only [List.getD_eq_getElem?_getD, hx, Option.getD_some]
      have hset := nrow_put hN hFj
      have d1 := hN.cell j hjn
      have fz := free_of hN j
      simp only [Nat.lt_irrefl, if_false] at d1
      have hx9 : (x : Int) ≤ 65535 := by omega
      have hd : w.heap.size < wr.heap.size := lt_of hN
      have HS := Lib.hid (And.intro hset hf)
      clear hset hf hFj hx hc1 hx16 hN
      go_wp2_with fail
      obtain ⟨hset, hf⟩ := HS.out
      exact ⟨⟨j + 1, by go_num, by omega, hset, (Fr.setCell _ _ _ _).outL hf fun i hi => .inr (by simp at hi; omega)⟩, by simp [intOf]; omega⟩
    · have hje : j = n := by omega
      subst hje
      have hN' := hN.congr (G := F) fun s hs => by simp only [if_pos hs]
      have HF := Lib.hid (And.intro hN' hf)
      have hd : w.heap.size < wr.heap.size := lt_of hN
      obtain ⟨wo, hwo⟩ : ∃ wo, wo = wr := ⟨wr, rfl⟩
      subst hwo
      clear hN hN' hf hj hjn
      go_upto_region 10 with fail
      simp only [hk, hq]
      go_cut [11] from 51 to 61 (fun v11 wx => PutMade wo ((ctL F j).take k ++ 0 :: (ctL F j).drop k) n1 v11 wx)
      case first =>
        by_cases hkj : k = j
        · have hjk : j = k := by omega
          subst hjk
          have HS0 := Lib.hid (show SS wo w.heap.size j F wo from ⟨HF.out.1, Fr.refl _ _⟩)
          obtain ⟨S, hS⟩ : ∃ S, wo.heap.size = S := ⟨_, rfl⟩
          have HSZ := Lib.hid hS
          clear hS
          have b1 : ((wo.alloc (.cells #[] 3)).drew).heap[wo.heap.size]? = some (.cells #[] 3) := new_of wo _
          have sz1 : ∀ o, (wo.alloc o).heap.size = wo.heap.size + 1 := fun o => Array.size_push _
          have b2 : (((wo.alloc (.cells #[] 3)).alloc (.cells #[.int .i64 0] 3)).drew).heap[wo.heap.size]? = some (.cells #[] 3) := (Fr.alloc [] _ _).drew.blk (new_of wo _) (by simp)
          have b2' : (((wo.alloc (.cells #[] 3)).alloc (.cells #[.int .i64 0] 3)).drew).heap[wo.heap.size + 1]? = some (.cells #[.int .i64 0] 3) := by
            have := new_of (wo.alloc (.cells #[] 3)) (.cells #[.int .i64 0] 3)
            rw [sz1] at this
            exact this
          have b3 : (((wo.alloc (.cells #[.int .i64 0] 3)).alloc (.cells #[] 3)).drew).heap[wo.heap.size]? = some (.cells #[.int .i64 0] 3) := (Fr.alloc [] _ _).drew.blk (new_of wo _) (by simp)
          have b3' : (((wo.alloc (.cells #[.int .i64 0] 3)).alloc (.cells #[] 3)).drew).heap[wo.heap.size + 1]? = some (.cells #[] 3) := by
            have := new_of (wo.alloc (.cells #[.int .i64 0] 3)) (.cells #[] 3)
            rw [sz1] at this
            exact this
          have B1 := Lib.hid b1
          have B2 := Lib.hid (And.intro b2 b2')
          have B3 := Lib.hid (And.intro b3 b3')
          clear b1 b2 b2' b3 b3' sz1
          go_wp2_with fail
          go_region_held3 (fun w' => SS wo w.heap.size j F w')
            (first | exact HS0.out | exact SS.alloc (by assumption) | exact SS.grow (by assumption) hd HQ9.out.2.1 (HQ7.out.1.lt _ rfl).1 | exact SS.grow (by assumption) hd HQ7.out.2.1 (HQ5.out.1.lt _ rfl).1 | exact SS.grow (by assumption) hd HQ5.out.2.1 (by omega) | ((repeat (first | refine SS.drew ?_ | refine SS.alloc ?_)); exact HS0.out))
            (first
              | (refine step_catz (o := ⟨some 55, _, _, _, _, _⟩) (wo := wo) (by rfl) (.tmp 51) (.tmp 54) (by rfl) wo.heap.size 0 0 [] (by rfl) (own_empty (by first | exact B1.out | exact B2.out.1) (by omega)) (by have := ‹SS wo w.heap.size j F _›; exact this.2) ⟨w.heap.size, 0, none⟩ j j ((List.range j).map fun i => Value.int .i64 (F (0 + i) : Int)) (by rfl) (by simp) (news_irow (n := j) (o := 0) (by have := ‹SS wo w.heap.size j F _›; exact this.1) (by omega)) (one_irow _ _ _) j (by omega) (by omega) ?_; intro g5 c5 w5 HQ5)
              | (refine step_catz (o := ⟨some 55, _, _, _, _, _⟩) (wo := wo) (by rfl) (.tmp 51) (.tmp 54) (by rfl) (wo.heap.size + 1) 0 0 [] (by rfl) (own_empty (B3.out.2) (by omega)) (by have := ‹SS wo w.heap.size j F _›; exact this.2) ⟨w.heap.size, 0, none⟩ j j ((List.range j).map fun i => Value.int .i64 (F (0 + i) : Int)) (by rfl) (by simp) (news_irow (n := j) (o := 0) (by have := ‹SS wo w.heap.size j F _›; exact this.1) (by omega)) (one_irow _ _ _) j (by omega) (by omega) ?_; intro g5 c5 w5 HQ5)
              | (refine step_catz (o := ⟨some 57, _, _, _, _, _⟩) (wo := wo) (by rfl) (.tmp 55) (.tmp 56) (by rfl) g5 j c5 ([] ++ (List.range j).map fun i => Value.int .i64 (F (0 + i) : Int)) (by rfl) (ownsRow_to HQ5.out.1 (Fr.alloc [] _ _) (by simp)) (by have := ‹SS wo w.heap.size j F _›; exact this.2) ⟨w5.heap.size, 0, none⟩ 1 1 [.int .i64 0] (by rfl) (by rfl) (World.news_of_block (new_of w5 _)) (by intro u hu; simp at hu; subst hu; rfl) (j + 1) (by omega) (by omega) ?_; intro g7 c7 w7 HQ7)
              | (refine step_catz (o := ⟨some 57, _, _, _, _, _⟩) (wo := wo) (by rfl) (.tmp 55) (.tmp 56) (by rfl) g5 j c5 ([] ++ (List.range j).map fun i => Value.int .i64 (F (0 + i) : Int)) (by rfl) (HQ5.out.1) (by have := ‹SS wo w.heap.size j F _›; exact this.2) ⟨wo.heap.size + 1, 0, none⟩ 1 1 [.int .i64 0] (by rfl) (by rfl) (World.news_of_block (blk_grow HQ5.out.2.1 B2.out.2 (by omega))) (by intro u hu; simp at hu; subst hu; rfl) (j + 1) (by omega) (by omega) ?_; intro g7 c7 w7 HQ7)
              | (refine step_catz (o := ⟨some 57, _, _, _, _, _⟩) (wo := wo) (by rfl) (.tmp 55) (.tmp 56) (by rfl) g5 j c5 ([] ++ (List.range j).map fun i => Value.int .i64 (F (0 + i) : Int)) (by rfl) (HQ5.out.1) (by have := ‹SS wo w.heap.size j F _›; exact this.2) ⟨wo.heap.size, 0, none⟩ 1 1 [.int .i64 0] (by rfl) (by rfl) (World.news_of_block (blk_grow HQ5.out.2.1 B3.out.1 (by omega))) (by intro u hu; simp at hu; subst hu; rfl) (j + 1) (by omega) (by omega) ?_; intro g7 c7 w7 HQ7)
              | (refine step_catz (o := ⟨some 61, _, _, _, _, _⟩) (wo := wo) (by rfl) (.tmp 57) (.tmp 60) (by rfl) g7 (j + 1) c7 _ (by rfl) HQ7.out.1 (by have := ‹SS wo w.heap.size j F _›; exact this.2) ⟨w.heap.size, 0, none⟩ 0 0 ((List.range 0).map fun i => Value.int .i64 (F (j + i) : Int)) (by rfl) (by simp) (by intro j' u hu; simp at hu) (one_irow _ _ _) n1 (by have := HX.out.2.2.2.2.2.1; omega) (by omega) ?_; intro g9 c9 w9 HQ9))
          all_goals go_wp2_with fail
          all_goals go_meet
          all_goals (case rel => exact putMade_of (by omega) (by omega) (by have := HX.out.2.2.2.2.2.1; omega) HQ9.out.1 rfl HQ9.out.2.2)
        · have hkj2 : (k : Int) < (j : Int) := by omega
          have hkj3 : k < j := by omega
          have hkd : decide (j = k) = false := by simp; omega
          have hjk : ¬ j = k := by omega
          have HS0 := Lib.hid (show SS wo w.heap.size j F wo from ⟨HF.out.1, Fr.refl _ _⟩)
          obtain ⟨S, hS⟩ : ∃ S, wo.heap.size = S := ⟨_, rfl⟩
          have HSZ := Lib.hid hS
          clear hS
          have b1 : ((wo.alloc (.cells #[] 3)).drew).heap[wo.heap.size]? = some (.cells #[] 3) := new_of wo _
          have sz1 : ∀ o, (wo.alloc o).heap.size = wo.heap.size + 1 := fun o => Array.size_push _
          have b2 : (((wo.alloc (.cells #[] 3)).alloc (.cells #[.int .i64 0] 3)).drew).heap[wo.heap.size]? = some (.cells #[] 3) := (Fr.alloc [] _ _).drew.blk (new_of wo _) (by simp)
          have b2' : (((wo.alloc (.cells #[] 3)).alloc (.cells #[.int .i64 0] 3)).drew).heap[wo.heap.size + 1]? = some (.cells #[.int .i64 0] 3) := by
            have := new_of (wo.alloc (.cells #[] 3)) (.cells #[.int .i64 0] 3)
            rw [sz1] at this
            exact this
          have b3 : (((wo.alloc (.cells #[.int .i64 0] 3)).alloc (.cells #[] 3)).drew).heap[wo.heap.size]? = some (.cells #[.int .i64 0] 3) := (Fr.alloc [] _ _).drew.blk (new_of wo _) (by simp)
          have b3' : (((wo.alloc (.cells #[.int .i64 0] 3)).alloc (.cells #[] 3)).drew).heap[wo.heap.size + 1]? = some (.cells #[] 3) := by
            have := new_of (wo.alloc (.cells #[.int .i64 0] 3)) (.cells #[] 3)
            rw [sz1] at this
            exact this
          have B1 := Lib.hid b1
          have B2 := Lib.hid (And.intro b2 b2')
          have B3 := Lib.hid (And.intro b3 b3')
          clear b1 b2 b2' b3 b3' sz1
          go_wp2_with fail
          go_region_held3 (fun w' => SS wo w.heap.size j F w')
            (first | exact HS0.out | exact SS.alloc (by assumption) | exact SS.grow (by assumption) hd HQ9.out.2.1 (HQ7.out.1.lt _ rfl).1 | exact SS.grow (by assumption) hd HQ7.out.2.1 (HQ5.out.1.lt _ rfl).1 | exact SS.grow (by assumption) hd HQ5.out.2.1 (by omega) | ((repeat (first | refine SS.drew ?_ | refine SS.alloc ?_)); exact HS0.out))
            (first
              | (refine step_catz (o := ⟨some 55, _, _, _, _, _⟩) (wo := wo) (by rfl) (.tmp 51) (.tmp 54) (by rfl) wo.heap.size 0 0 [] (by rfl) (own_empty (by first | exact B1.out | exact B2.out.1) (by omega)) (by have := ‹SS wo w.heap.size j F _›; exact this.2) ⟨w.heap.size, 0, none⟩ k j ((List.range k).map fun i => Value.int .i64 (F (0 + i) : Int)) (by rfl) (by simp) (news_irow (n := j) (o := 0) (by have := ‹SS wo w.heap.size j F _›; exact this.1) (by omega)) (one_irow _ _ _) k (by omega) (by omega) ?_; intro g5 c5 w5 HQ5)
              | (refine step_catz (o := ⟨some 55, _, _, _, _, _⟩) (wo := wo) (by rfl) (.tmp 51) (.tmp 54) (by rfl) (wo.heap.size + 1) 0 0 [] (by rfl) (own_empty (B3.out.2) (by omega)) (by have := ‹SS wo w.heap.size j F _›; exact this.2) ⟨w.heap.size, 0, none⟩ k j ((List.range k).map fun i => Value.int .i64 (F (0 + i) : Int)) (by rfl) (by simp) (news_irow (n := j) (o := 0) (by have := ‹SS wo w.heap.size j F _›; exact this.1) (by omega)) (one_irow _ _ _) k (by omega) (by omega) ?_; intro g5 c5 w5 HQ5)
              | (refine step_catz (o := ⟨some 57, _, _, _, _, _⟩) (wo := wo) (by rfl) (.tmp 55) (.tmp 56) (by rfl) g5 k c5 ([] ++ (List.range k).map fun i => Value.int .i64 (F (0 + i) : Int)) (by rfl) (ownsRow_to HQ5.out.1 (Fr.alloc [] _ _) (by simp)) (by have := ‹SS wo w.heap.size j F _›; exact this.2) ⟨w5.heap.size, 0, none⟩ 1 1 [.int .i64 0] (by rfl) (by rfl) (World.news_of_block (new_of w5 _)) (by intro u hu; simp at hu; subst hu; rfl) (k + 1) (by omega) (by omega) ?_; intro g7 c7 w7 HQ7)
              | (refine step_catz (o := ⟨some 57, _, _, _, _, _⟩) (wo := wo) (by rfl) (.tmp 55) (.tmp 56) (by rfl) g5 k c5 ([] ++ (List.range k).map fun i => Value.int .i64 (F (0 + i) : Int)) (by rfl) (HQ5.out.1) (by have := ‹SS wo w.heap.size j F _›; exact this.2) ⟨wo.heap.size + 1, 0, none⟩ 1 1 [.int .i64 0] (by rfl) (by rfl) (World.news_of_block (blk_grow HQ5.out.2.1 B2.out.2 (by omega))) (by intro u hu; simp at hu; subst hu; rfl) (k + 1) (by omega) (by omega) ?_; intro g7 c7 w7 HQ7)
              | (refine step_catz (o := ⟨some 57, _, _, _, _, _⟩) (wo := wo) (by rfl) (.tmp 55) (.tmp 56) (by rfl) g5 k c5 ([] ++ (List.range k).map fun i => Value.int .i64 (F (0 + i) : Int)) (by rfl) (HQ5.out.1) (by have := ‹SS wo w.heap.size j F _›; exact this.2) ⟨wo.heap.size, 0, none⟩ 1 1 [.int .i64 0] (by rfl) (by rfl) (World.news_of_block (blk_grow HQ5.out.2.1 B3.out.1 (by omega))) (by intro u hu; simp at hu; subst hu; rfl) (k + 1) (by omega) (by omega) ?_; intro g7 c7 w7 HQ7)
              | (refine step_catz (o := ⟨some 61, _, _, _, _, _⟩) (wo := wo) (by rfl) (.tmp 57) (.tmp 60) (by rfl) g7 (k + 1) c7 _ (by rfl) HQ7.out.1 (by have := ‹SS wo w.heap.size j F _›; exact this.2) ⟨w.heap.size, k, none⟩ (j - k) (j - k) ((List.range (j - k)).map fun i => Value.int .i64 (F (k + i) : Int)) (by rfl) (by simp) (news_irow (n := j) (o := k) (by have := ‹SS wo w.heap.size j F _›; exact this.1) (by omega)) (one_irow _ _ _) n1 (by have := HX.out.2.2.2.2.2.1; omega) (by omega) ?_; intro g9 c9 w9 HQ9))
          all_goals go_wp2_with fail
          all_goals go_meet
          all_goals (case rel => exact putMade_of (by omega) (rfl) (by have := HX.out.2.2.2.2.2.1; omega) HQ9.out.1 rfl HQ9.out.2.2)
      case rest =>
      obtain ⟨gm, cm, rfl, hlen, hSl, hfc⟩ := hcut
      have hd2 := hd
      have HC := Lib.hid (And.intro hlen (And.intro hSl hfc))
      have HL1 := Lib.hid (lens_row w.heap.size j j M F wc (HF.out.1.to hfc (by simp)) (by omega) (fun i _ => by have := HX.out.2.2.2.2.1 i; omega) (by omega) (by omega))
      have HL2 := Lib.hid (fun W (f : Fr [] wc W) => lens_put_row gm j k n1 cm M F W (hSl.below f.below) hlen hkn (by omega) (fun i _ => by have := HX.out.2.2.2.2.1 i; omega) (by omega) (by omega))
      have HL3 := Lib.hid (fun W (f : Fr [] wo W) => lens_row w.heap.size j j 15 F W (HF.out.1.to f (by simp)) (by omega) (fun i _ => by have := HX.out.2.2.2.2.1 i; omega) (by omega) (by omega))
      clear hlen hSl hfc hd
      go_wp2_with fail
      refine HL1.out.mono ?_
      rintro e w2 ⟨f2, ⟨hlt, rfl⟩ | ⟨hle, ga, rfl, hga, hNa⟩⟩
      · have F2 := Lib.hid f2
        have HB := Lib.hid hlt
        clear f2 hlt HL1
        go_wp2_with fail
        refine (HL2.out _ F2.out).mono ?_
        rintro e w3 ⟨f3, ⟨_, rfl⟩ | ⟨hle, _⟩⟩
        · have F3 := Lib.hid (F2.out.trans f3)
          clear f3
          go_wp2_with fail
          refine (HA.out _).mono ?_
          rintro e w4 ⟨rfl, f4⟩
          have F4 := Lib.hid ((HF.out.2.trans (HC.out.2.2.trans F3.out)).trans f4)
          clear f4
          go_wp2_with fail
          go_ret
          exact ⟨rfl, F4.out.below⟩
        · have := HB.out; omega
      · have F2 := Lib.hid (And.intro f2 hNa)
        have HB := Lib.hid hle
        clear f2 hle HL1 hga hNa
        go_wp2_with fail
        refine (HL2.out _ F2.out.1).mono ?_
        rintro e w3 ⟨f3, ⟨hlt, _⟩ | ⟨_, gb, rfl, hgb, hNb⟩⟩
        · have := HB.out; omega
        have hNa3 := F2.out.2.to f3 (by simp)
        have hkl : k ≤ (ctL F j).length := by rw [ctL_len]; exact hkn
        have HR := Lib.hid (room_of HB.out)
        have F3 := Lib.hid (And.intro (F2.out.1.trans f3) (And.intro hNa3 hNb))
        have hn1k : j + 1 = n1 := HX.out.2.2.2.2.2.1
        obtain ⟨k1, hk1⟩ : ∃ k1, k + 1 = k1 := ⟨_, rfl⟩
        have ek1 : (k : Int) + 1 = (k1 : Int) := by omega
        have hk1i : (k1 : Int) ≤ (n1 : Int) := by omega
        have hkn1 : (k : Int) < (n1 : Int) := by omega
        have hkn2 : (k : Int) ≤ (n1 : Int) := by omega
        have hk0 : (0 : Int) ≤ (k : Int) := by omega
        have hwk1 : IntKind.i64.wrap (k1 : Int) = (k1 : Int) := IntWalk.i64_in _ (by omega)
        obtain ⟨z, hz⟩ : ∃ z, lenS ((ctL F j).take k ++ 0 :: (ctL F j).drop k) M k = z := ⟨_, rfl⟩
        have hz0 : z = 0 := by rw [← hz]; exact lens_put_k _ k M hkl (by omega) HR.out
        have hzne : ((z : Int) != 0) = false := by rw [hz0]; rfl
        have hzb : (z : Int) ≤ 0 := by omega
        have cz : w3.cell? ⟨gb, k, none⟩ = some (.int .u8 (z : Int)) := by rw [hNb.cell k (by omega), hz]
        have hgb3 : gb < w3.heap.size := lt_of hNb
        have HZ := Lib.hid (And.intro cz hgb3)
        have hput : ∀ s, lenS ((ctL F j).take k ++ 0 :: (ctL F j).drop k) M (sh k s) = lenS (ctL F j) M s := fun s => lens_put _ k M s hkl
        have l1 : (List.range k).map (fun i => lenS ((ctL F j).take k ++ 0 :: (ctL F j).drop k) M (0 + i)) = (List.range k).map fun i => lenS (ctL F j) M (0 + i) := List.map_congr_left fun i hi => by
          have := List.mem_range.1 hi
          have h := hput i
          unfold sh at h
          rw [if_pos this] at h
          rw [Nat.zero_add]; exact h
        have l2 : (List.range (j - k)).map (fun i => lenS ((ctL F j).take k ++ 0 :: (ctL F j).drop k) M (k1 + i)) = (List.range (j - k)).map fun i => lenS (ctL F j) M (k + i) := List.map_congr_left fun i hi => by
          have h := hput (k + i)
          unfold sh at h
          rw [if_neg (by omega)] at h
          rw [show k1 + i = k + i + 1 by omega]; exact h
        have hB8 : ∀ s, lenS (ctL F j) M s < 256 := fun s => by have := lens_fits _ M (by omega) HR.out s; omega
        have HS1 := Lib.hid (fun W (f : Fr [] w3 W) => al_same (some ⟨gb, 0, none⟩) (some ⟨ga, 0, none⟩) n1 j k ((List.range k).map fun i => lenS (ctL F j) M (0 + i)) W (by simp) (by have := sl_part (o := 0) (m := k) (hNb.to f (by simp)) (by omega); rwa [l1] at this) (sl_part (o := 0) (m := k) (hNa3.to f (by simp)) (by omega)) (by simp; omega) (fun x hx => by obtain ⟨s, _, rfl⟩ := List.mem_map.1 hx; exact hB8 _))
        have HS2 := Lib.hid (fun W (f : Fr [] w3 W) => al_same (some ⟨gb, k1, none⟩) (some ⟨ga, k, none⟩) (j - k) (j - k) (j - k) ((List.range (j - k)).map fun i => lenS (ctL F j) M (k + i)) W (by simp) (by have := sl_part (o := k1) (m := j - k) (hNb.to f (by simp)) (by omega); rwa [l2] at this) (sl_part (o := k) (m := j - k) (hNa3.to f (by simp)) (by omega)) (by simp; omega) (fun x hx => by obtain ⟨s, _, rfl⟩ := List.mem_map.1 hx; exact hB8 _))
        have HS3 := Lib.hid (fun W (f : Fr [] w3 W) => al_same (some ⟨gb, 0, none⟩) (some ⟨ga, 0, none⟩) 0 0 0 [] W rfl (fun h => absurd rfl h) (fun h => absurd rfl h) (by simp) (fun x hx => by simp at hx))
        have HNK := Lib.hid (And.intro hk1 hn1k)
        clear f3 hgb hNb hNa3 hz hz0 cz hgb3 hput l1 l2 hB8 hn1k hk1
        have hnn : (((j : Nat) : Int) != ((j : Nat) : Int)) = false := by simp
        have hnn1 : (((n1 : Nat) : Int) != ((n1 : Nat) : Int)) = false := by simp
        by_cases hkj : k = j
        · have hjk : (j = k) = True := eq_true (by omega)
          have hk1n : (n1 = k1) = True := eq_true (by have := HNK.out; omega)
          have ej : j - k = 0 := by omega
          have en : n1 - k1 = 0 := by have := HNK.out; omega
          have HKJ := Lib.hid hkj
          clear hkj
          go_wp2_with fail
          go_region_held3 (fun w' => Fr [] w3 w' ∧ w'.cell? ⟨gb, k, none⟩ = some (.int .u8 (z : Int))) (first | exact keep17 HZ (Fr.drew (Fr.refl _ _)) | exact keep17 HZ (Fr.trans (And.left (by assumption)) f6) | exact keep17 HZ (Fr.trans (And.left (by assumption)) f5)) (first | (go_at_call_of 11 (Value.slice (some (Addr.mk gb 0 none)) k n1); refine (HS1.out _ ?_).mono ?_; exact (And.left (by assumption)); rintro e w5 ⟨rfl, f5⟩) | (go_at_call_of 11 (Value.slice (some (Addr.mk gb 0 none)) 0 0); refine (HS3.out _ ?_).mono ?_; exact (And.left (by assumption)); rintro e w6 ⟨rfl, f6⟩))
          have H5 := Lib.hid ((Fr.drew (Fr.refl [] w3)).trans (f5.trans f6))
          clear hjk hk1n ej en
          clear f5 f6
          go_wp2_with fail
          refine (HL3.out _ (HC.out.2.2.trans (F3.out.1.trans H5.out))).mono ?_
          rintro e w7 ⟨f7, ⟨hlt, _⟩ | ⟨hle15, gw, rfl, hgw, hNw⟩⟩
          · have := HB.out; omega
          have F7 := Lib.hid (And.intro f7 (And.intro hNw hle15))
          have hM1' : 1 ≤ M := by omega
          have HM := Lib.hid hM1'
          clear f7 hgw hNw hle15 hM1'
          go_wp2_with fail
          go_loopw [18, 19] (fun v18 v19 wr => ∃ i mx : Nat, v18 = .int .i64 (mx : Int) ∧ v19 = .int .i64 (i : Int) ∧ i ≤ j ∧ mx ≤ 15 ∧ (∀ s, s < i → lenS (ctL F j) 15 s ≤ mx) ∧ wr = w7) (fun _ v19 _ => j - (intOf v19).toNat)
          case atStart => exact ⟨0, 0, rfl, rfl, Nat.zero_le _, Nat.zero_le _, fun s hs => by omega, rfl⟩
          case round =>
            obtain ⟨i, mx, rfl, rfl, hi, hmx, hall, hw⟩ := hrel
            replace hw := hw.symm
            subst hw
            by_cases hij : i < j
            · have hii : (i : Int) < (j : Int) := by omega
              have d1 := F7.out.2.1.cell i hij
              have hb := lens_fits (ctL F j) 15 (by omega) (room_of F7.out.2.2) i
              obtain ⟨x, hx⟩ : ∃ x, lenS (ctL F j) 15 i = x := ⟨_, rfl⟩
              rw [hx] at d1 hb
              have hxi : (x : Int) ≤ 15 := by omega
              have hmi : (mx : Int) ≤ 15 := by omega
              obtain ⟨y, hy⟩ : ∃ y, max mx x = y := ⟨_, rfl⟩
              have ey : max (mx : Int) (x : Int) = (y : Int) := by omega
              have hlt7 := lt_of F7.out.2.1
              have HI := Lib.hid (show ∀ s, s < i + 1 → lenS (ctL F j) 15 s ≤ y from fun s hs => by
                by_cases e : s = i
                · subst e; omega
                · have := hall s (by omega); omega)
              have HY := Lib.hid (show y ≤ 15 by omega)
              clear hx hb hy hall hmx
              go_wp2_with fail
              exact ⟨⟨i + 1, y, by first | rfl | go_num, by go_num, by omega, HY.out, HI.out, by first | rfl | trivial⟩, by simp [intOf]; omega⟩
            · have hie : i = j := by omega
              have hid : decide (i < j) = false := by simp; omega
              have hmi : (mx : Int) ≤ 15 := by omega
              by_cases hmM : M < mx
              · have hmMi : (M : Int) < (mx : Int) := by omega
                clear hall hmx hmM
                go_wp2_with fail
                refine (HA.out _).mono ?_
                rintro e w8 ⟨rfl, f8⟩
                have F8 := Lib.hid (((HF.out.2.trans HC.out.2.2).trans (F3.out.1.trans (H5.out.trans F7.out.1))).trans f8)
                clear f8
                go_wp2_with fail
                go_ret
                exact ⟨rfl, F8.out.below⟩
              · have hmMd : decide (M < mx) = false := by simp; omega
                have hfit : ∀ s, lenS (ctL F j) 15 s ≤ M := fun s => by
                  rcases Nat.lt_or_ge s j with h | h
                  · have := hall s (by omega); omega
                  · rcases Nat.eq_zero_or_pos (lenS (ctL F j) 15 s) with h0 | h0
                    · omega
                    · obtain ⟨c, hc, _⟩ := (lens_pos (ctL F j) 15 (by omega) (room_of F7.out.2.2) s).1 h0
                      have := (ctL_of hc).1
                      omega
                have e1 := lens_least (ctL F j) M 15 HM.out (by omega) HR.out (room_of F7.out.2.2) hfit
                have e2 := lens_least (ctL F j) 15 M (by omega) HM.out (room_of F7.out.2.2) HR.out (fun s => by have := lens_fits (ctL F j) M HM.out HR.out s; omega)
                have hNc := HF.out.1.to (HC.out.2.2.trans (F3.out.1.trans (H5.out.trans F7.out.1))) (by simp)
                have HW1 := Lib.hid (weigh_row ga w.heap.size j M F w7 ((F3.out.2.1.to H5.out (by simp)).to F7.out.1 (by simp)) hNc (by omega) (fun i _ => by have := HX.out.2.2.2.2.1 i; omega) HM.out (by omega) HB.out)
                have HW2 := Lib.hid (fun W (f : Fr [] w7 W) => weigh_row gw w.heap.size j 15 F W (F7.out.2.1.to f (by simp)) (hNc.to f (by simp)) (by omega) (fun i _ => by have := HX.out.2.2.2.2.1 i; omega) (by omega) (by omega) F7.out.2.2)
                rw [show weighN (lensL (ctL F j) M) (ctL F j) = weighN (lensL (ctL F j) 15) (ctL F j) from Nat.le_antisymm e1 e2] at HW1
                obtain ⟨X, hX⟩ : ∃ X, weighN (lensL (ctL F j) 15) (ctL F j) = X := ⟨_, rfl⟩
                rw [hX] at HW1 HW2
                clear hall hmx hfit e1 e2 hNc hX
                go_wp2_with fail
                refine HW1.out.mono ?_
                rintro e w8 ⟨rfl, f8⟩
                have F8 := Lib.hid f8
                clear f8 HW1
                go_wp2_with fail
                refine (HW2.out _ F8.out).mono ?_
                rintro e w9 ⟨rfl, f9⟩
                have F9 := Lib.hid (F8.out.trans f9)
                clear f9 HW2
                go_wp2_with fail
                refine (HA.out _).mono ?_
                rintro e w10 ⟨rfl, f10⟩
                have F10 := Lib.hid (((HF.out.2.trans HC.out.2.2).trans (F3.out.1.trans (H5.out.trans (F7.out.1.trans F9.out)))).trans f10)
                clear f10
                go_wp2_with fail
                go_ret
                exact ⟨rfl, F10.out.below⟩
        · have hjk : ¬ j = k := by omega
          have hk1n : ¬ n1 = k1 := by have := HNK.out; omega
          have en : n1 - k1 = j - k := by have := HNK.out; omega
          go_wp2_with fail
          go_region_held3 (fun w' => Fr [] w3 w' ∧ w'.cell? ⟨gb, k, none⟩ = some (.int .u8 (z : Int))) (first | exact keep17 HZ (Fr.drew (Fr.refl _ _)) | exact keep17 HZ (Fr.trans (And.left (by assumption)) f6) | exact keep17 HZ (Fr.trans (And.left (by assumption)) f5)) (first | (go_at_call_of 11 (Value.slice (some (Addr.mk gb 0 none)) k n1); refine (HS1.out _ ?_).mono ?_; exact (And.left (by assumption)); rintro e w5 ⟨rfl, f5⟩) | (go_at_call_of 11 (Value.slice (some (Addr.mk gb k1 none)) (j - k) (j - k)); refine (HS2.out _ ?_).mono ?_; exact (And.left (by assumption)); rintro e w6 ⟨rfl, f6⟩))
          have H5 := Lib.hid ((Fr.drew (Fr.refl [] w3)).trans (f5.trans f6))
          clear hkj hjk hk1n en
          clear f5 f6
          go_wp2_with fail
          refine (HL3.out _ (HC.out.2.2.trans (F3.out.1.trans H5.out))).mono ?_
          rintro e w7 ⟨f7, ⟨hlt, _⟩ | ⟨hle15, gw, rfl, hgw, hNw⟩⟩
          · have := HB.out; omega
          have F7 := Lib.hid (And.intro f7 (And.intro hNw hle15))
          have hM1' : 1 ≤ M := by omega
          have HM := Lib.hid hM1'
          clear f7 hgw hNw hle15 hM1'
          go_wp2_with fail
          go_loopw [18, 19] (fun v18 v19 wr => ∃ i mx : Nat, v18 = .int .i64 (mx : Int) ∧ v19 = .int .i64 (i : Int) ∧ i ≤ j ∧ mx ≤ 15 ∧ (∀ s, s < i → lenS (ctL F j) 15 s ≤ mx) ∧ wr = w7) (fun _ v19 _ => j - (intOf v19).toNat)
          case atStart => exact ⟨0, 0, rfl, rfl, Nat.zero_le _, Nat.zero_le _, fun s hs => by omega, rfl⟩
          case round =>
            obtain ⟨i, mx, rfl, rfl, hi, hmx, hall, hw⟩ := hrel
            replace hw := hw.symm
            subst hw
            by_cases hij : i < j
            · have hii : (i : Int) < (j : Int) := by omega
              have d1 := F7.out.2.1.cell i hij
              have hb := lens_fits (ctL F j) 15 (by omega) (room_of F7.out.2.2) i
              obtain ⟨x, hx⟩ : ∃ x, lenS (ctL F j) 15 i = x := ⟨_, rfl⟩
              rw [hx] at d1 hb
              have hxi : (x : Int) ≤ 15 := by omega
              have hmi : (mx : Int) ≤ 15 := by omega
              obtain ⟨y, hy⟩ : ∃ y, max mx x = y := ⟨_, rfl⟩
              have ey : max (mx : Int) (x : Int) = (y : Int) := by omega
              have hlt7 := lt_of F7.out.2.1
              have HI := Lib.hid (show ∀ s, s < i + 1 → lenS (ctL F j) 15 s ≤ y from fun s hs => by
                by_cases e : s = i
                · subst e; omega
                · have := hall s (by omega); omega)
              have HY := Lib.hid (show y ≤ 15 by omega)
              clear hx hb hy hall hmx
              go_wp2_with fail
              exact ⟨⟨i + 1, y, by first | rfl | go_num, by go_num, by omega, HY.out, HI.out, by first | rfl | trivial⟩, by simp [intOf]; omega⟩
            · have hie : i = j := by omega
              have hid : decide (i < j) = false := by simp; omega
              have hmi : (mx : Int) ≤ 15 := by omega
              by_cases hmM : M < mx
              · have hmMi : (M : Int) < (mx : Int) := by omega
                clear hall hmx hmM
                go_wp2_with fail
                refine (HA.out _).mono ?_
                rintro e w8 ⟨rfl, f8⟩
                have F8 := Lib.hid (((HF.out.2.trans HC.out.2.2).trans (F3.out.1.trans (H5.out.trans F7.out.1))).trans f8)
                clear f8
                go_wp2_with fail
                go_ret
                exact ⟨rfl, F8.out.below⟩
              · have hmMd : decide (M < mx) = false := by simp; omega
                have hfit : ∀ s, lenS (ctL F j) 15 s ≤ M := fun s => by
                  rcases Nat.lt_or_ge s j with h | h
                  · have := hall s (by omega); omega
                  · rcases Nat.eq_zero_or_pos (lenS (ctL F j) 15 s) with h0 | h0
                    · omega
                    · obtain ⟨c, hc, _⟩ := (lens_pos (ctL F j) 15 (by omega) (room_of F7.out.2.2) s).1 h0
                      have := (ctL_of hc).1
                      omega
                have e1 := lens_least (ctL F j) M 15 HM.out (by omega) HR.out (room_of F7.out.2.2) hfit
                have e2 := lens_least (ctL F j) 15 M (by omega) HM.out (room_of F7.out.2.2) HR.out (fun s => by have := lens_fits (ctL F j) M HM.out HR.out s; omega)
                have hNc := HF.out.1.to (HC.out.2.2.trans (F3.out.1.trans (H5.out.trans F7.out.1))) (by simp)
                have HW1 := Lib.hid (weigh_row ga w.heap.size j M F w7 ((F3.out.2.1.to H5.out (by simp)).to F7.out.1 (by simp)) hNc (by omega) (fun i _ => by have := HX.out.2.2.2.2.1 i; omega) HM.out (by omega) HB.out)
                have HW2 := Lib.hid (fun W (f : Fr [] w7 W) => weigh_row gw w.heap.size j 15 F W (F7.out.2.1.to f (by simp)) (hNc.to f (by simp)) (by omega) (fun i _ => by have := HX.out.2.2.2.2.1 i; omega) (by omega) (by omega) F7.out.2.2)
                rw [show weighN (lensL (ctL F j) M) (ctL F j) = weighN (lensL (ctL F j) 15) (ctL F j) from Nat.le_antisymm e1 e2] at HW1
                obtain ⟨X, hX⟩ : ∃ X, weighN (lensL (ctL F j) 15) (ctL F j) = X := ⟨_, rfl⟩
                rw [hX] at HW1 HW2
                clear hall hmx hfit e1 e2 hNc hX
                go_wp2_with fail
                refine HW1.out.mono ?_
                rintro e w8 ⟨rfl, f8⟩
                have F8 := Lib.hid f8
                clear f8 HW1
                go_wp2_with fail
                refine (HW2.out _ F8.out).mono ?_
                rintro e w9 ⟨rfl, f9⟩
                have F9 := Lib.hid (F8.out.trans f9)
                clear f9 HW2
                go_wp2_with fail
                refine (HA.out _).mono ?_
                rintro e w10 ⟨rfl, f10⟩
                have F10 := Lib.hid (((HF.out.2.trans HC.out.2.2).trans (F3.out.1.trans (H5.out.trans (F7.out.1.trans F9.out)))).trans f10)
                clear f10
                go_wp2_with fail
                go_ret
                exact ⟨rfl, F10.out.below⟩
end Go.Proofs.Ytmajacfcfdljeaa
