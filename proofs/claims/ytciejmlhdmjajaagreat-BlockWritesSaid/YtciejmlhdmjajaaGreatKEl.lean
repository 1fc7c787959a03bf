/- Package block: Best. -/
import Derived.Test.YtciejmlhdmjajaaGreatKEk
import Derived.Test.YtciejmlhdmjajaaGreatKPl
namespace Go.Proofs.YtciejmlhdmjajaaGreat
open Go.RowKit Go.Shelf
set_option linter.unusedVariables false
set_option linter.unusedSimpArgs false
attribute [local go_sem] Oper.semAt_some

/-- How often a symbol stands there. -/
def cntSy (d : Bool) (i : Nat) : List Sy → Nat
  | [] => 0
  | s :: l => (if s.dist = d ∧ s.n = i then 1 else 0) + cntSy d i l
theorem cntSy_append (d : Bool) (i : Nat) (a b : List Sy) : cntSy d i (a ++ b) = cntSy d i a + cntSy d i b := by
  induction a with
  | nil => simp [cntSy]
  | cons x a ih => simp only [List.cons_append, cntSy, ih]; omega
theorem cntSy_le (d : Bool) (i : Nat) (a : List Sy) : cntSy d i a ≤ a.length := by
  induction a with
  | nil => simp [cntSy]
  | cons x a ih => simp only [cntSy, List.length_cons]; split <;> omega
theorem cntSy_snoc (d : Bool) (i : Nat) (pre : List SyO) (y : SyO) (s : Sy) (h : y.sy = s) : cntSy d i ((pre ++ [y]).map SyO.sy) = cntSy d i (pre.map SyO.sy) + if s.dist = d ∧ s.n = i then 1 else 0 := by
  subst h
  rw [List.map_append, cntSy_append]
  rfl
theorem needN_small : ∀ n : Nat, n < 321 → needN (n : Int) ≤ 9 := by decide +kernel
theorem SlOf.fr0 {α : Type} {enc : α → List Value} {sz : Nat} {w w' : World} {a0 : Option Addr} {xs : List α} (h : SlOf enc sz w a0 xs) (hf : Fr [] w w') : SlOf enc sz w' a0 xs := h.fr hf fun _ _ => by simp
/-- The lengths of the best codes for symbols. -/
def bestF (d : Bool) (n : Nat) (l : List Sy) (s : Nat) : Nat := lenS (ctL (fun i => cntSy d i l) n) 15 s
theorem sl_zrow {w : World} {g n : Nat} {T : TypeId} {F : Nat → Nat} (h : Nrow w g T .i64 n F) : SlOf (Zn .i64) 1 w (some ⟨g, 0, none⟩) (ctL F n) := fun _ => by
  refine ⟨g, 0, rfl, lt_of h, fun i x hi j u hu => ?_⟩
  obtain ⟨hi1, rfl⟩ := ctL_of hi
  match j, hu with
  | 0, hu =>
    simp [Zn] at hu
    subst hu
    rw [Nat.mul_one, Nat.add_zero, Nat.zero_add]
    exact h.cell i hi1
  | j + 1, hu => simp [Zn] at hu
/-- pack.Lens of counts of few symbols. -/
theorem lens_few (g n cp M : Nat) (T : TypeId) (F : Nat → Nat) (w : World) (hN : Nrow w g T .i64 n F) (hn : n ≤ 320) (hF : ∀ i, i < n → F i ≤ 1073741824) (h1 : 1 ≤ M) (h2 : M ≤ 15) (h4 : ∀ k : Nat, k ≤ n → needN (k : Int) ≤ M) :
    Calls Tryz.prog 38 #[.slice (some ⟨g, 0, none⟩) n cp, .int .i64 (M : Int)] w fun e w' => ∃ gl, e = .returned (.tuple #[.slice (some ⟨gl, 0, none⟩) n n, .int .i64 0]) ∧ w.heap.size ≤ gl ∧ Nrow w' gl 5 .u8 n (lenS (ctL F n) M) ∧ Fr [] w w' := by
  have h := lens_any (some ⟨g, 0, none⟩) cp (ctL F n) (M : Int) w (sl_zrow hN) (by rw [ctL_len]; omega) (by omega) (by omega)
  rw [ctL_len, Int.toNat_natCast] at h
  refine h.mono fun e w' ⟨k1, k2⟩ => ?_
  rcases k2 with ⟨k2, k3⟩ | ⟨k2, gl, k3, k4, k5⟩
  · exfalso
    have h5 := (ctL_bad hn hF h1 h2).1 k2
    have h6 := h4 _ (posN_le F n)
    omega
  · exact ⟨gl, k3, k4, k5, k1⟩
theorem zc286 : Tryz.zeroCells77 = ((List.range 286).map fun j => Value.int .i64 (((fun _ => 0 : Nat → Nat) j : Nat) : Int)).toArray := by kernel_rfl
theorem zc30 : (#[Value.int .i64 0, Value.int .i64 0, Value.int .i64 0, Value.int .i64 0, Value.int .i64 0, Value.int .i64 0, Value.int .i64 0, Value.int .i64 0, Value.int .i64 0, Value.int .i64 0, Value.int .i64 0, Value.int .i64 0, Value.int .i64 0, Value.int .i64 0, Value.int .i64 0, Value.int .i64 0, Value.int .i64 0, Value.int .i64 0, Value.int .i64 0, Value.int .i64 0, Value.int .i64 0, Value.int .i64 0, Value.int .i64 0, Value.int .i64 0, Value.int .i64 0, Value.int .i64 0, Value.int .i64 0, Value.int .i64 0, Value.int .i64 0, Value.int .i64 0] : Array Value) = ((List.range 30).map fun j => Value.int .i64 (((fun _ => 0 : Nat → Nat) j : Nat) : Int)).toArray := by kernel_rfl
theorem stab_nrow {β : Type} {own : List Nat} {B g : Nat} {T : TypeId} {kd : IntKind} {n : Nat} (F : β → Nat → Nat) (hg : g < B) (ho : g ∉ own) : Stab own B (fun s _ W => Nrow W g T kd n (F s)) := stab_blk (fun s => .cells ((List.range n).map fun j => Value.int kd (F s j : Int)).toArray T (0, 0)) hg ho
set_option maxRecDepth 2000000 in
set_option maxHeartbeats 3200000 in
theorem best_in (a : Option Addr) (c : Nat) (l : List Tok) (w : World) (hs : SlOf Tok.enc Tok.sz w a l) (hl : l.length ≤ 1000000) (hok : ∀ t ∈ l, t.ok) (hmay : ∀ t ∈ l, t.may = true) :
    CallsIn Fence.wide 4 Tryz.prog 22 #[.slice a l.length c] w fun e w' => ∃ g1 g2, e = .returned (.tuple #[.agg #[.slice (some ⟨g1, 0, none⟩) 286 286, .slice (some ⟨g2, 0, none⟩) 30 30], .int .i64 0]) ∧ w.heap.size ≤ g1 ∧ w.heap.size ≤ g2 ∧ Nrow w' g1 5 .u8 286 (bestF false 286 (symsL l)) ∧ Nrow w' g2 5 .u8 30 (bestF true 30 (symsL l)) ∧ Fr [] w w' := by
  have HB := Lib.hid (And.intro hs (And.intro hl (And.intro hok hmay)))
  have HM := Lib.hid (show l.all Tok.may = true by rw [List.all_eq_true]; exact hmay)
  have HA := Lib.hid (may_all a c l)
  clear hl hmay hs hok
  refine callsIn_of_wp_marks Tryz.func22 rfl trivial ?_ rfl
  simp only [Tryz.ntmps22, List.size_toArray, List.length_cons, List.length_nil, Nat.reduceAdd, Nat.reduceSub, Array.replicate_succ, Array.replicate_zero, List.push_toArray, List.append_toArray, List.nil_append, List.cons_append]
  gi_wp2_with fail
  refine ⟨trivial, (callsIn_wide.2 (HA.out _ (HB.out.1.fr0 (Fr.alloc _ _ _)) (by have := HB.out.2.1; omega) HB.out.2.2.1)).mono ?_⟩
  rintro e w1 ⟨rfl, f1⟩
  rw [HM.out]
  have F1 := Lib.hid f1
  clear f1
  gi_wp2_with fail
  refine ⟨trivial, (callsIn_wide.2 (syms_in a c l.length _)).mono ?_⟩
  rintro e w2 ⟨rfl, rfl⟩
  gi_wp2_with fail
  rw [zc30, zc286]
  obtain ⟨W0, hW0⟩ : ∃ W0, ((w1.alloc (.cells ((List.range 286).map fun j => Value.int .i64 (((fun _ => 0 : Nat → Nat) j : Nat) : Int)).toArray 77)).alloc (.cells ((List.range 30).map fun j => Value.int .i64 (((fun _ => 0 : Nat → Nat) j : Nat) : Int)).toArray 78)).alloc (.cells #[.slice a l.length c] 22) = W0 := ⟨_, rfl⟩
  have hs1 : w.heap.size + 1 ≤ w1.heap.size := by have := F1.out.size; simp at this; exact this
  have hs0 : W0.heap.size = w1.heap.size + 3 := by rw [← hW0]; simp
  have f1w : Fr [] w w1 := (Fr.alloc _ _ _).trans F1.out
  have f10 : Fr [] w1 W0 := by rw [← hW0]; exact ((Fr.alloc _ _ _).trans (Fr.alloc _ _ _)).trans (Fr.alloc _ _ _)
  have xr : W0.heap[w.heap.size]? = some (.cells #[.slice none 0 0, .slice none 0 0] 45 (0, 0)) := f10.blk (F1.out.blk (alloc_last _ _) (by simp)) (by simp)
  have xL : Nrow W0 w1.heap.size 77 .i64 286 (fun _ => 0) := by
    rw [← hW0]; exact (Fr.alloc [] _ _).blk ((Fr.alloc [] _ _).blk (alloc_last w1 _) (by simp)) (by simp)
  have xD : Nrow W0 (w1.heap.size + 1) 78 .i64 30 (fun _ => 0) := by
    rw [← hW0]; refine (Fr.alloc [] _ _).blk ?_ (by simp)
    have := alloc_last (w1.alloc (.cells ((List.range 286).map fun j => Value.int .i64 (((fun _ => 0 : Nat → Nat) j : Nat) : Int)).toArray 77)) (.cells ((List.range 30).map fun j => Value.int .i64 (((fun _ => 0 : Nat → Nat) j : Nat) : Int)).toArray 78)
    rwa [World.size_alloc] at this
  have xT : W0.heap[w1.heap.size + 1 + 1]? = some (.cells #[.slice a l.length c] 22 (0, 0)) := by
    rw [← hW0]
    have := alloc_last ((w1.alloc (.cells ((List.range 286).map fun j => Value.int .i64 (((fun _ => 0 : Nat → Nat) j : Nat) : Int)).toArray 77)).alloc (.cells ((List.range 30).map fun j => Value.int .i64 (((fun _ => 0 : Nat → Nat) j : Nat) : Int)).toArray 78)) (.cells #[.slice a l.length c] 22)
    rwa [World.size_alloc, World.size_alloc] at this
  rw [hW0]
  clear hW0
  have f0 := f1w.trans f10
  obtain ⟨hs, hl, hok, hmay⟩ := HB.out
  have hb0 : w.heap.size ≤ W0.heap.size := by omega
  obtain ⟨gL, hgL⟩ : ∃ gL, w1.heap.size = gL := ⟨_, rfl⟩
  rw [hgL] at hs1 hs0 xL xD xT ⊢
  have hwz := Lib.hid hgL
  clear hgL
  refine wpIn_iter (by omega) rfl (enters_of Tryz.func56 (by kernel_rfl) rfl) (syms_iter 3 a c l (gL + 1 + 1) W0 (hs.fr0 f0) (by omega) hok hmay xT) (fun _ => rfl) [gL, gL + 1]
    (fun k hk => ?_) (fun k hk => by simp at hk)
    (fun pre M W => M = [gL, gL + 1] ∧ (Fr [] w W ∧ (W.heap[w.heap.size]? = some (.cells #[.slice none 0 0, .slice none 0 0] 45 (0, 0)) ∧ (Nrow W gL 77 .i64 286 (fun i => cntSy false i (pre.map SyO.sy)) ∧ Nrow W (gL + 1) 78 .i64 30 (fun i => cntSy true i (pre.map SyO.sy))))))
    (fun pre M X h i hi => by rw [h.1] at hi; simp at hi; rcases hi with rfl | rfl; exact lt_of h.2.2.2.1; exact lt_of h.2.2.2.2)
    (Stab.and (stab_pure _) (Stab.and (stab_fr hb0 (by simp)) (Stab.and (stab_blk (fun _ => _) (by omega) (by simp)) (Stab.and (stab_nrow (fun (pre : List SyO) i => cntSy false i (pre.map SyO.sy)) (by omega) List.not_mem_nil) (stab_nrow (fun (pre : List SyO) i => cntSy true i (pre.map SyO.sy)) (by omega) List.not_mem_nil)))))
    ⟨rfl, f0, xr, xL, xD⟩ ?round ?done
  · simp only [List.mem_cons, List.not_mem_nil, or_false] at hk ⊢
    refine ⟨by omega, by simp, ?_⟩
    rintro (h | h)
    · omega
    · have h2 := hs.lt _ h
      have h3 := f1w.size
      have h4 := hwz.out
      omega
  case round =>
    rintro lp pre x M W hlp hlW ⟨rfl, hf, hxr, hxL, hxD⟩ hlM hlen
    obtain ⟨⟨sd, sn, se, sb⟩, hx⟩ := x
    obtain ⟨y, hy⟩ : ∃ y : SyO, y = ⟨⟨sd, sn, se, sb⟩, hx⟩ := ⟨_, rfl⟩
    have HY := Lib.hid hy
    simp only [SyO.encs, SyO.sy, Sy.val]
    gi_wp2_with fail
    refine ⟨Fr.alloc _ _ _, fun W2 f2 => ?_⟩
    have fa : Fr [lp] W W2 := (Fr.alloc [lp] _ _).trans f2
    have zr := fa.blk hxr (by simp; omega)
    have zL := hxL.to fa (by simp; omega)
    have zD := hxD.to fa (by simp; omega)
    have zb := f2.blk (alloc_last W (.cells #[.bool sd, .int .i64 (sn : Int), .int .u32 (se : Int), .int .i64 (sb : Int)] 76)) (by simp; omega)
    have fw : Fr [] w W2 := fa.outL hf (by simp; omega)
    have b0 := cell_of zb 0
    have b1 := cell_of zb 1
    simp at b0 b1
    have hpl : (pre.map SyO.sy).length ≤ 2000001 := by rw [List.length_map]; omega
    cases sd
    · have hsn : sn < 286 := by have := hx.1; simp at this; exact this
      have hsni : (sn : Int) < 286 := by omega
      have c1 := zL.cell sn hsn
      have c2 := free_of zL sn
      have hT := cntSy_le false sn (pre.map SyO.sy)
      have HE := Lib.hid (show ∀ i, cntSy false i ((pre ++ [y]).map SyO.sy) = if i = sn then cntSy false sn (pre.map SyO.sy) + 1 else cntSy false i (pre.map SyO.sy) from fun i => by
        rw [cntSy_snoc false i pre y ⟨false, sn, se, sb⟩ (by rw [hy]; rfl)]
        by_cases h : i = sn
        · subst h; simp
        · have h' : ¬ sn = i := fun e => h e.symm
          simp [h, h'])
      have HE2 := Lib.hid (show ∀ i, cntSy true i ((pre ++ [y]).map SyO.sy) = cntSy true i (pre.map SyO.sy) from fun i => by
        rw [cntSy_snoc true i pre y ⟨false, sn, se, sb⟩ (by rw [hy]; rfl)]
        simp)
      obtain ⟨T, hT2⟩ : ∃ T, cntSy false sn (pre.map SyO.sy) = T := ⟨_, rfl⟩
      rw [hT2] at hT c1 HE
      have hTi : (T : Int) ≤ 2000001 := by omega
      have HW := Lib.hid (And.intro fw (And.intro zr (And.intro zL zD)))
      clear fw zr zL zD zb hlW fa hT2 hT hxr hxL hxD hpl hy hlM
      gi_wp2_with fail
      obtain ⟨fw, zr, zL, zD⟩ := HW.out
      have fs := Fr.setCell W2 gL sn (.int .i64 ((T : Int) + 1))
      have s1 := zL.set_ (G := fun i => cntSy false i ((pre ++ [y]).map SyO.sy)) sn (T + 1) (fun j hj => HE.out j)
      rw [← HY.out]
      refine ⟨_, ⟨rfl, fs.outL fw (by simp; omega), fs.blk zr (by simp; omega), by simpa using s1, (zD.to fs (by simp)).congr fun j hj => HE2.out j⟩, fs.mono (by simp), fun i hi => .inl hi⟩
    · have hsn : sn < 30 := by have := hx.1; simp at this; exact this
      have hsni : (sn : Int) < 30 := by omega
      have c1 := zD.cell sn hsn
      have c2 := free_of zD sn
      have hT := cntSy_le true sn (pre.map SyO.sy)
      have HE := Lib.hid (show ∀ i, cntSy true i ((pre ++ [y]).map SyO.sy) = if i = sn then cntSy true sn (pre.map SyO.sy) + 1 else cntSy true i (pre.map SyO.sy) from fun i => by
        rw [cntSy_snoc true i pre y ⟨true, sn, se, sb⟩ (by rw [hy]; rfl)]
        by_cases h : i = sn
        · subst h; simp
        · have h' : ¬ sn = i := fun e => h e.symm
          simp [h, h'])
      have HE2 := Lib.hid (show ∀ i, cntSy false i ((pre ++ [y]).map SyO.sy) = cntSy false i (pre.map SyO.sy) from fun i => by
        rw [cntSy_snoc false i pre y ⟨true, sn, se, sb⟩ (by rw [hy]; rfl)]
        simp)
      obtain ⟨T, hT2⟩ : ∃ T, cntSy true sn (pre.map SyO.sy) = T := ⟨_, rfl⟩
      rw [hT2] at hT c1 HE
      have hTi : (T : Int) ≤ 2000001 := by omega
      have HW := Lib.hid (And.intro fw (And.intro zr (And.intro zL zD)))
      clear fw zr zL zD zb hlW fa hT2 hT hxr hxL hxD hpl hy hlM
      gi_wp2_with fail
      obtain ⟨fw, zr, zL, zD⟩ := HW.out
      have fs := Fr.setCell W2 (gL + 1) sn (.int .i64 ((T : Int) + 1))
      have s1 := zD.set_ (G := fun i => cntSy true i ((pre ++ [y]).map SyO.sy)) sn (T + 1) (fun j hj => HE.out j)
      rw [← HY.out]
      refine ⟨_, ⟨rfl, fs.outL fw (by simp; omega), fs.blk zr (by simp; omega), (zL.to fs (by simp)).congr fun j hj => HE2.out j, by simpa using s1⟩, fs.mono (by simp), fun i hi => .inl hi⟩
  case done =>
    rintro D ys M W hD hys ⟨rfl, hf, hxr, hxL, hxD⟩ hDM hK
    rw [hys] at hxL hxD
    have hcl : ∀ d, (i : Nat) → cntSy d i (symsL l) ≤ 1073741824 := fun d i => by have := cntSy_le d i (symsL l); have := symsL_len l; omega
    have HX := Lib.hid (And.intro hf (And.intro hxr (And.intro hxL (And.intro hxD hK))))
    clear hf hxr hxL hxD hK hys
    gi_wp2_with fail
    refine ⟨trivial, (callsIn_wide.2 (lens_few gL 286 286 15 77 _ _ HX.out.2.2.1 (by omega) (fun i _ => hcl false i) (by omega) (by omega) (fun k hk => by have := needN_small k (by omega); omega))).mono ?_⟩
    rintro e w3 ⟨g1, rfl, hg1, hr1, f3⟩
    have F3 := Lib.hid (And.intro f3 (And.intro hg1 hr1))
    clear f3 hg1 hr1
    gi_wp2_with fail
    refine ⟨trivial, (callsIn_wide.2 (lens_few (gL + 1) 30 30 15 78 _ _ (HX.out.2.2.2.1.to F3.out.1 (by simp)) (by omega) (fun i _ => hcl true i) (by omega) (by omega) (fun k hk => by have := needN_small k (by omega); omega))).mono ?_⟩
    rintro e w4 ⟨g2, rfl, hg2, hr2, f4⟩
    have hre := f4.blk (F3.out.1.blk HX.out.2.1 (by simp)) (by simp)
    have cr0 := cell_of hre 0
    have cr1 := cell_of hre 1
    have fr0 := free_of hre 0
    have fr1 := free_of hre 1
    simp at cr0 cr1
    have F4 := Lib.hid (And.intro f4 (And.intro hg2 (And.intro hr2 hre)))
    clear f4 hg2 hr2 hre
    gi_wp2_with fail
    obtain ⟨hf, hxr, hxL, hxD, hK⟩ := HX.out
    obtain ⟨f3, hg1, hr1⟩ := F3.out
    obtain ⟨f4, hg2, hr2, hre⟩ := F4.out
    have fs1 := Fr.setCell w4 w.heap.size 0 (.slice (some ⟨g1, 0, none⟩) 286 286)
    have s1 := set_of hre 0 (.slice (some ⟨g1, 0, none⟩) 286 286)
    have fs2 := Fr.setCell (w4.setCell ⟨w.heap.size, 0, none⟩ (.slice (some ⟨g1, 0, none⟩) 286 286)) w.heap.size 1 (.slice (some ⟨g2, 0, none⟩) 30 30)
    have s2 := set_of s1 1 (.slice (some ⟨g2, 0, none⟩) 30 30)
    have fs := fs1.trans fs2
    have hW : w.heap.size < W.heap.size := lt_of hxr
    have hw3 := f3.size
    have hK' := fs.blk (f4.blk (f3.blk hK (by simp)) (by simp)) (by simp; omega)
    refine ⟨by simp, .inl ⟨_, _, rfl, run_takeDeferred hK', ?_⟩⟩
    have fp := fr_put (.deferred none) hK'
    have hDW : D < W.heap.size := lt_of hK
    have s3 := fp.blk s2 (by simp; omega)
    have e1 : ((#[Value.slice none 0 0, Value.slice none 0 0] : Array Value).setIfInBounds 0 (.slice (some ⟨g1, 0, none⟩) 286 286)).setIfInBounds 1 (.slice (some ⟨g2, 0, none⟩) 30 30) = #[.slice (some ⟨g1, 0, none⟩) 286 286, .slice (some ⟨g2, 0, none⟩) 30 30] := by simp
    rw [e1] at s3
    have hg1w : w.heap.size ≤ g1 := by omega
    have hg2w : w.heap.size ≤ g2 := by omega
    refine ⟨_, results_row_tmp rfl _ _ w.heap.size 45 _ (0, 0) _ rfl s3 Tryz.underlying45 rfl (by kernel_rfl), g1, g2, rfl, hg1w, hg2w, ?_, ?_, ?_⟩
    · exact ((hr1.to f4 (by simp)).to fs (by simp; omega)).to fp (by simp; omega)
    · exact (hr2.to fs (by simp; omega)).to fp (by simp; omega)
    · exact fp.outL (fs.outL ((hf.trans f3).trans f4) (by simp)) (by simp; omega)
theorem best_ok (a : Option Addr) (c : Nat) (l : List Tok) (w : World) (hs : SlOf Tok.enc Tok.sz w a l) (hl : l.length ≤ 1000000) (hok : ∀ t ∈ l, t.ok) (hmay : ∀ t ∈ l, t.may = true) :
    Calls Tryz.prog 22 #[.slice a l.length c] w fun e w' => ∃ g1 g2, e = .returned (.tuple #[.agg #[.slice (some ⟨g1, 0, none⟩) 286 286, .slice (some ⟨g2, 0, none⟩) 30 30], .int .i64 0]) ∧ w.heap.size ≤ g1 ∧ w.heap.size ≤ g2 ∧ Nrow w' g1 5 .u8 286 (bestF false 286 (symsL l)) ∧ Nrow w' g2 5 .u8 30 (bestF true 30 (symsL l)) ∧ Fr [] w w' := callsIn_wide.1 (best_in a c l w hs hl hok hmay)
/-- Tokens that may not be. -/
theorem best_no (a : Option Addr) (c : Nat) (l : List Tok) (w : World) (hs : SlOf Tok.enc Tok.sz w a l) (hl : l.length ≤ 1000000) (hok : ∀ t ∈ l, t.ok) (hmay : l.all Tok.may = false) :
    Calls Tryz.prog 22 #[.slice a l.length c] w fun e w' => e = .returned (.tuple #[.agg #[.slice none 0 0, .slice none 0 0], .int .i64 2]) ∧ Fr [] w w' := by
  have HA := Lib.hid (may_all a c l)
  have HB := Lib.hid (And.intro hs (And.intro hl (And.intro hok hmay)))
  clear hl hmay hs hok
  go_enter Tryz.func22, Tryz.ntmps22
  go_wp2_with fail
  refine (HA.out _ (HB.out.1.fr0 (Fr.alloc _ _ _)) (by have := HB.out.2.1; omega) HB.out.2.2.1).mono ?_
  rintro e w1 ⟨rfl, f1⟩
  rw [HB.out.2.2.2]
  have hre := f1.blk (alloc_last w (.cells #[.slice none 0 0, .slice none 0 0] 45)) (by simp)
  have cr0 := cell_of hre 0
  have cr1 := cell_of hre 1
  have fr0 := free_of hre 0
  have fr1 := free_of hre 1
  simp at cr0 cr1
  have F1 := Lib.hid (And.intro f1 hre)
  clear f1 hre
  go_wp2_with fail
  obtain ⟨f1, hre⟩ := F1.out
  have fs1 := Fr.setCell w1 w.heap.size 0 (.slice none 0 0)
  have s1 := set_of hre 0 (.slice none 0 0)
  have fs2 := Fr.setCell (w1.setCell ⟨w.heap.size, 0, none⟩ (.slice none 0 0)) w.heap.size 1 (.slice none 0 0)
  have s2 := set_of s1 1 (.slice none 0 0)
  have e1 : ((#[Value.slice none 0 0, Value.slice none 0 0] : Array Value).setIfInBounds 0 (.slice none 0 0)).setIfInBounds 1 (.slice none 0 0) = #[.slice none 0 0, .slice none 0 0] := by simp
  rw [e1] at s2
  (try simp only [Exit.inBlock, Exit.then])
  refine bodyPost_ret (results_row_tmp rfl _ _ w.heap.size 45 _ (0, 0) _ rfl s2 Tryz.underlying45 rfl (by kernel_rfl)) rfl ?_
  exact ⟨rfl, (fs1.trans fs2).outL ((Fr.alloc _ _ _).trans f1) (by simp)⟩
end Go.Proofs.YtciejmlhdmjajaaGreat

