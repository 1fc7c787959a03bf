/- Package block: how many bits symbols take. -/
import Derived.Test.YtciejmlhdmjajaaGreatKEj
import Derived.Test.YtciejmlhdmjajaaGreatKHd
import Derived.Test.YtciejmlhdmjajaaGreatKTn
namespace Go.Proofs.YtciejmlhdmjajaaGreat
open Go.RowKit Go.Shelf
set_option linter.unusedVariables false
set_option linter.unusedSimpArgs false
attribute [local go_sem] Oper.semAt_some

/-- How many bits a symbol takes, by codes' lengths. -/
def Sy.takes (lit dist : List Nat) (s : Sy) : Nat := (if s.dist then dist else lit).getD s.n 0 + s.bits
def takesL (lit dist : List Nat) : List Sy → Nat
  | [] => 0
  | s :: l => s.takes lit dist + takesL lit dist l
theorem takesL_append (lit dist : List Nat) (a b : List Sy) : takesL lit dist (a ++ b) = takesL lit dist a + takesL lit dist b := by
  induction a with
  | nil => simp [takesL]
  | cons x a ih => simp only [List.cons_append, takesL, ih]; omega
theorem getD_lt8 {l : List Nat} (h : ∀ x ∈ l, x < 256) (s : Nat) : l.getD s 0 < 256 := by
  unfold List.getD
  cases hq : l[s]? with
  | none => decide
  | some x => exact h x (List.mem_of_getElem? hq)
theorem takesL_le (lit dist : List Nat) (h8 : ∀ x ∈ lit, x < 256) (k8 : ∀ x ∈ dist, x < 256) : ∀ (l : List Sy), (∀ s ∈ l, s.ok) → takesL lit dist l ≤ 300 * l.length
  | [], _ => by simp [takesL]
  | s :: l, h => by
    have h1 := takesL_le lit dist h8 k8 l fun x hx => h x (by simp [hx])
    have h2 := (h s (by simp)).2.2
    have h3 : s.takes lit dist ≤ 300 := by
      unfold Sy.takes
      split
      · have := getD_lt8 k8 s.n; omega
      · have := getD_lt8 h8 s.n; omega
    simp only [takesL, List.length_cons]
    omega
/-- Every symbol has a place in the codes. -/
def Placed (lit dist : List Nat) (l : List Sy) : Prop := ∀ s ∈ l, s.n < (if s.dist then dist else lit).length
set_option maxRecDepth 2000000 in
set_option maxHeartbeats 3200000 in
theorem weigh_in (a : Option Addr) (c : Nat) (l : List Tok) (aL aD : Option Addr) (cL cD : Nat) (lit dist : List Nat) (w : World) (hs : SlOf Tok.enc Tok.sz w a l) (hl : l.length ≤ 1000000) (hok : ∀ t ∈ l, t.ok) (hmay : ∀ t ∈ l, t.may = true)
    (hL : SlOf U8 1 w aL lit) (hD : SlOf U8 1 w aD dist) (h8 : ∀ x ∈ lit, x < 256) (k8 : ∀ x ∈ dist, x < 256) (hll : lit.length = 286 ∨ lit.length = 288) (hdl : dist.length = 30) :
    CallsIn Fence.wide 4 Tryz.prog 21 #[.slice a l.length c, .agg #[.slice aL lit.length cL, .slice aD dist.length cD]] w fun e w' => e = .returned (.int .i64 ((takesL lit dist (symsL l) : Nat) : Int)) ∧ Fr [] w w' := by
  have HB := Lib.hid (And.intro hs (And.intro hl (And.intro hok (And.intro hmay (And.intro hL (And.intro hD (And.intro h8 (And.intro k8 (And.intro hll hdl)))))))))
  clear hs hl hok hmay hL hD h8 k8 hll hdl
  refine callsIn_of_wp_marks Tryz.func21 rfl trivial ?_ rfl
  simp only [Tryz.ntmps21, List.size_toArray, List.length_cons, List.length_nil, Nat.reduceAdd, Nat.reduceSub, Array.replicate_succ, Array.replicate_zero, List.push_toArray, List.append_toArray, List.nil_append, List.cons_append]
  gi_wp2_with fail
  refine ⟨trivial, (callsIn_wide.2 (syms_in a c l.length _)).mono ?_⟩
  rintro e w1 ⟨rfl, rfl⟩
  gi_wp2_with fail
  obtain ⟨W0, hW0⟩ : ∃ W0, ((w.alloc (.cells #[.slice aL lit.length cL, .slice aD dist.length cD] 45)).alloc (.cells #[.int .i64 0] 3)).alloc (.cells #[.slice a l.length c] 22) = W0 := ⟨_, rfl⟩
  have hs0 : W0.heap.size = w.heap.size + 3 := by rw [← hW0]; simp
  have f0 : Fr [] w W0 := by rw [← hW0]; exact ((Fr.alloc _ _ _).trans (Fr.alloc _ _ _)).trans (Fr.alloc _ _ _)
  have x0 : W0.heap[w.heap.size]? = some (.cells #[.slice aL lit.length cL, .slice aD dist.length cD] 45 (0, 0)) := by
    rw [← hW0]; exact (Fr.alloc [] _ _).blk ((Fr.alloc [] _ _).blk (alloc_last w _) (by simp)) (by simp)
  have x1 : W0.heap[w.heap.size + 1]? = some (.cells #[.int .i64 0] 3 (0, 0)) := by
    rw [← hW0]; refine (Fr.alloc [] _ _).blk ?_ (by simp)
    have := alloc_last (w.alloc (.cells #[.slice aL lit.length cL, .slice aD dist.length cD] 45)) (.cells #[.int .i64 0] 3)
    simpa using this
  have x2 : W0.heap[w.heap.size + 1 + 1]? = some (.cells #[.slice a l.length c] 22 (0, 0)) := by
    rw [← hW0]
    have := alloc_last ((w.alloc (.cells #[.slice aL lit.length cL, .slice aD dist.length cD] 45)).alloc (.cells #[.int .i64 0] 3)) (.cells #[.slice a l.length c] 22)
    simpa using this
  rw [hW0]
  clear hW0
  obtain ⟨hs, hl, hok, hmay, hL, hD, h8, k8, hll, hdl⟩ := HB.out
  have HDL := Lib.hid (And.intro hll hdl)
  clear hll hdl
  refine wpIn_iter (by omega) rfl (enters_of Tryz.func56 (by kernel_rfl) rfl) (syms_iter 3 a c l (w.heap.size + 1 + 1) W0 (hs.fr f0 (by simp)) (by omega) hok hmay x2) (fun _ => rfl) [w.heap.size + 1]
    (fun k hk => ?_) (fun k hk => by simp at hk)
    (fun pre M W => M = [w.heap.size + 1] ∧ (Fr [] w W ∧ (W.heap[w.heap.size]? = some (.cells #[.slice aL lit.length cL, .slice aD dist.length cD] 45 (0, 0)) ∧ W.heap[w.heap.size + 1]? = some (.cells #[.int .i64 ((takesL lit dist (pre.map SyO.sy) : Nat) : Int)] 3 (0, 0)))))
    (fun pre M X h i hi => by rw [h.1] at hi; simp at hi; rw [hi]; exact lt_of h.2.2.2)
    (Stab.and (stab_pure _) (Stab.and (stab_fr (by omega) (by simp)) (Stab.and (stab_blk (fun _ => _) (by omega) (by simp)) (stab_blk (fun pre : List SyO => .cells #[.int .i64 ((takesL lit dist (pre.map SyO.sy) : Nat) : Int)] 3 (0, 0)) (by omega) (by simp)))))
    ⟨rfl, f0, x0, x1⟩ ?round ?done
  · simp only [List.mem_cons, List.not_mem_nil, or_false] at hk ⊢
    subst hk
    refine ⟨by omega, by simp, ?_⟩
    rintro (hk | hk)
    · omega
    · have := hs.lt _ hk
      omega
  case round =>
    rintro lp pre x M W hlp hlW ⟨rfl, hf, hx0, hx1⟩ hlM hlen
    obtain ⟨⟨sd, sn, se, sb⟩, hx⟩ := x
    obtain ⟨y, hy⟩ : ∃ y : SyO, y = ⟨⟨sd, sn, se, sb⟩, hx⟩ := ⟨_, rfl⟩
    have HY := Lib.hid hy
    simp only [SyO.encs, SyO.sy, Sy.val]
    gi_wp2_with fail
    refine ⟨Fr.alloc _ _ _, fun W2 f2 => ?_⟩
    have fa : Fr [lp] W W2 := (Fr.alloc [lp] _ _).trans f2
    have hB0 : w.heap.size ≠ lp := by omega
    have hB1 : w.heap.size + 1 ≠ lp := by omega
    have z0 := fa.blk hx0 (by simp; omega)
    have z1 := fa.blk hx1 (by simp; omega)
    have zb := f2.blk (alloc_last W (.cells #[.bool sd, .int .i64 (sn : Int), .int .u32 (se : Int), .int .i64 (sb : Int)] 76)) (by simp; omega)
    have fw : Fr [] w W2 := fa.outL hf (by simp; omega)
    have d0 := cell_of z0 0
    have d1 := cell_of z0 1
    have dn := cell_of z1 0
    have fn := free_of z1 0
    have b0 := cell_of zb 0
    have b1 := cell_of zb 1
    have b3 := cell_of zb 3
    simp at d0 d1 dn b0 b1 b3
    have hsb : (sb : Int) ≤ 13 := by have := hx.2.2; simp only at this; omega
    obtain ⟨T, hT⟩ : ∃ T, takesL lit dist (pre.map SyO.sy) = T := ⟨_, rfl⟩
    have hTl : takesL lit dist (pre.map SyO.sy) ≤ 300 * pre.length := by have := takesL_le lit dist h8 k8 (pre.map SyO.sy) (fun s hs => by obtain ⟨z, _, rfl⟩ := List.mem_map.1 hs; exact z.2); simpa using this
    rw [hT] at dn hTl
    have hTi : (T : Int) ≤ 1000000000 := by omega
    have hTe : takesL lit dist ((pre ++ [y]).map SyO.sy) = T + y.sy.takes lit dist := by rw [List.map_append, takesL_append, hT]; simp [takesL]
    cases sd
    · have hsn : sn < lit.length := by have := hx.1; simp at this; have := HDL.out; omega
      have hsni : (sn : Int) < (lit.length : Int) := by omega
      obtain ⟨q, hq⟩ : ∃ q, lit[sn]? = some q := ⟨lit[sn], List.getElem?_eq_getElem hsn⟩
      obtain ⟨gl, ol, rfl, _, hc⟩ := (hL.fr fw (by simp)) (by intro h; rw [h] at hq; simp at hq)
      have c1 := hc sn q hq 0 (.int .u8 (q : Int)) rfl
      rw [Nat.mul_one, Nat.add_zero] at c1
      have hq8 : (q : Int) ≤ 255 := by have := h8 q (List.mem_of_getElem? hq); omega
      have HE := Lib.hid (show takesL lit dist ((pre ++ [y]).map SyO.sy) = T + (q + sb) by rw [hTe, hy]; unfold Sy.takes SyO.sy; simp [List.getD, hq])
      have HW := Lib.hid (And.intro fw (And.intro z0 z1))
      clear hc hq hTe fw z0 z1 zb hlW fa hB0 hB1 hsn hT hx0 hx1 hTl hlM
      gi_wp2_with fail
      refine wpIn_region_tail 12 (by kernel_rfl) (fun h => ?_) (by kernel_rfl) (by kernel_rfl) ?_
      · obtain ⟨a', w', h⟩ := h; exact h
      simp only [List.take_succ_cons, List.take_zero, List.drop_succ_cons, List.drop_zero]
      repeat go_big_quiet_step (fail)
      refine wpQuiet_nil ?_
      go_wp2_with fail
      obtain ⟨fw, z0, z1⟩ := HW.out
      have fs : Fr [w.heap.size + 1] W2 (W2.setCell ⟨w.heap.size + 1, 0, none⟩ (.int .i64 ((T : Int) + ((q : Int) + (sb : Int))))).drew := (Fr.setCell _ _ _ _).drew
      have s1 := set_of z1 0 (.int .i64 ((T : Int) + ((q : Int) + (sb : Int))))
      have HY2 := HY.out
      rw [← HY2]
      refine ⟨_, ⟨rfl, fs.outL fw (by simp), fs.blk z0 (by simp), ?_⟩, fs, fun i hi => .inl hi⟩
      rw [HE.out]
      have e : ((T + (q + sb) : Nat) : Int) = (T : Int) + ((q : Int) + (sb : Int)) := by omega
      rw [e]
      exact s1
    · have hsn : sn < dist.length := by have := hx.1; simp at this; have := HDL.out; omega
      have hsni : (sn : Int) < (dist.length : Int) := by omega
      obtain ⟨q, hq⟩ : ∃ q, dist[sn]? = some q := ⟨dist[sn], List.getElem?_eq_getElem hsn⟩
      obtain ⟨gl, ol, rfl, _, hc⟩ := (hD.fr fw (by simp)) (by intro h; rw [h] at hq; simp at hq)
      have c1 := hc sn q hq 0 (.int .u8 (q : Int)) rfl
      rw [Nat.mul_one, Nat.add_zero] at c1
      have hq8 : (q : Int) ≤ 255 := by have := k8 q (List.mem_of_getElem? hq); omega
      have HE := Lib.hid (show takesL lit dist ((pre ++ [y]).map SyO.sy) = T + (q + sb) by rw [hTe, hy]; unfold Sy.takes SyO.sy; simp [List.getD, hq])
      have HW := Lib.hid (And.intro fw (And.intro z0 z1))
      clear hc hq hTe fw z0 z1 zb hlW fa hB0 hB1 hsn hT hx0 hx1 hTl hlM
      gi_wp2_with fail
      refine wpIn_region_tail 12 (by kernel_rfl) (fun h => ?_) (by kernel_rfl) (by kernel_rfl) ?_
      · obtain ⟨a', w', h⟩ := h; exact h
      simp only [List.take_succ_cons, List.take_zero, List.drop_succ_cons, List.drop_zero]
      repeat go_big_quiet_step (fail)
      refine wpQuiet_nil ?_
      go_wp2_with fail
      obtain ⟨fw, z0, z1⟩ := HW.out
      have fs : Fr [w.heap.size + 1] W2 (W2.setCell ⟨w.heap.size + 1, 0, none⟩ (.int .i64 ((T : Int) + ((q : Int) + (sb : Int))))).drew := (Fr.setCell _ _ _ _).drew
      have s1 := set_of z1 0 (.int .i64 ((T : Int) + ((q : Int) + (sb : Int))))
      have HY2 := HY.out
      rw [← HY2]
      refine ⟨_, ⟨rfl, fs.outL fw (by simp), fs.blk z0 (by simp), ?_⟩, fs, fun i hi => .inl hi⟩
      rw [HE.out]
      have e : ((T + (q + sb) : Nat) : Int) = (T : Int) + ((q : Int) + (sb : Int)) := by omega
      rw [e]
      exact s1
  case done =>
    rintro D ys M W hD hys ⟨rfl, hf, hx0, hx1⟩ hDM hK
    have cn := cell_of hx1 0
    have cf := free_of hx1 0
    simp at cn
    rw [hys] at cn
    have HX := Lib.hid (And.intro hf (And.intro hx1 (And.intro hK hys)))
    clear hf hx0 hx1 hK hys
    gi_wp2_with fail
    obtain ⟨hf, hx1, hK, hys⟩ := HX.out
    have fs := Fr.setCell W (w.heap.size + 1) 0 (.int .i64 ((takesL lit dist (symsL l) : Nat) : Int))
    have s1 := set_of hx1 0 (.int .i64 ((takesL lit dist (symsL l) : Nat) : Int))
    have hK' := fs.blk hK (by simp; omega)
    refine ⟨by simp, .inl ⟨_, _, rfl, run_takeDeferred hK', ?_⟩⟩
    have fp := fr_put (.deferred none) hK'
    have c2 := cell_of (fp.blk s1 (by simp; omega)) 0
    simp at c2
    exact ⟨.int .i64 ((takesL lit dist (symsL l) : Nat) : Int), by simp [results, Tryz.results21, go_sem, c2], rfl, fp.outL (fs.outL hf (by simp)) (by simp; omega)⟩

theorem weigh_ok (a : Option Addr) (c : Nat) (l : List Tok) (aL aD : Option Addr) (cL cD : Nat) (lit dist : List Nat) (w : World) (hs : SlOf Tok.enc Tok.sz w a l) (hl : l.length ≤ 1000000) (hok : ∀ t ∈ l, t.ok) (hmay : ∀ t ∈ l, t.may = true)
    (hL : SlOf U8 1 w aL lit) (hD : SlOf U8 1 w aD dist) (h8 : ∀ x ∈ lit, x < 256) (k8 : ∀ x ∈ dist, x < 256) (hll : lit.length = 286 ∨ lit.length = 288) (hdl : dist.length = 30) :
    Calls Tryz.prog 21 #[.slice a l.length c, .agg #[.slice aL lit.length cL, .slice aD dist.length cD]] w fun e w' => e = .returned (.int .i64 ((takesL lit dist (symsL l) : Nat) : Int)) ∧ Fr [] w w' :=
  callsIn_wide.1 (weigh_in a c l aL aD cL cD lit dist w hs hl hok hmay hL hD h8 k8 hll hdl)
end Go.Proofs.YtciejmlhdmjajaaGreat

