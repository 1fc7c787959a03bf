/- Package runs: Pack. -/
import Derived.Test.YtciejmlhdmjajaaKEp
import Derived.Test.YtciejmlhdmjajaaKOy
import Derived.Test.YtciejmlhdmjajaaKEl
namespace Go.Proofs.Ytciejmlhdmjajaa
open Go.RowKit Go.Shelf
set_option linter.unusedVariables false
set_option linter.unusedSimpArgs false
attribute [local go_sem] Oper.semAt_some

def RunE (p : Nat × Nat) : List Value := [.int .u8 (p.1 : Int), .int .u8 (p.2 : Int)]
theorem runElem : Elem Try.prog 77 119 2 2 := by
  refine ⟨Try.underlying77, ?_⟩
  obtain ⟨i, h1, h2, h3, h4⟩ := info_parts (show (Try.prog.info? 119).map (fun i => (i.zero, i.size, i.bytes)) = some (some (.agg #[.int .u8 0, .int .u8 0]), 2, 2) by kernel_rfl)
  exact ⟨i, _, h1, h2, h3, h4, rfl, by omega⟩
theorem flatMap_map' {α β γ : Type} (f : α → β) (g : β → List γ) : ∀ l : List α, (l.map f).flatMap g = l.flatMap fun x => g (f x)
  | [] => rfl
  | x :: l => by simp only [List.map_cons, List.flatMap_cons, flatMap_map' f g l]
theorem told_in (a : Option Addr) (c : Nat) (n : Nat) (w : World) : Calls Try.prog 81 #[.slice a n c] w fun e w' => e = .returned (.func (.func 89) #[] #[.pointer (some ⟨w.heap.size, 0, none⟩)]) ∧ w' = w.alloc (.cells #[.slice a n c] 25) := by
  go_enter Try.func81, Try.ntmps81
  go_wp2
  go_ret
  exact ⟨rfl, rfl⟩
/-- The footprint of a row in a cell: the cell, the row. -/
def RowI (w : World) (r x : Nat) (T e : TypeId) (sz B : Nat) (len : Nat) (xs : List Value) (M : List Nat) (W : World) : Prop :=
  ∃ v, M = wfp r v ∧ W.heap[r]? = some (.cells #[v] T (0, 0)) ∧ W.ownsRow B e sz v len xs ∧ v.ownBlock ≠ some x ∧ v.ownBlock ≠ some r
theorem stab_rowI {β : Type} {w : World} {r x : Nat} {T e : TypeId} {sz B B0 : Nat} (f : β → Nat) (g : β → List Value) (hr : r < B) (hrx : r ≠ x) : Stab [x] B (fun s M W => RowI w r x T e sz B0 (f s) (g s) M W) := fun s M X Y K h hf hK => by
  obtain ⟨v, rfl, h1, h2, h3, h4⟩ := h
  have hn : ∀ i, i ∈ wfp r v → i ∉ K := fun i hi hk => by
    rcases hK i hk with h5 | ⟨_, h5⟩
    · simp at h5
      subst h5
      simp only [wfp, List.mem_cons, Option.mem_toList] at hi
      rcases hi with h6 | h6
      · exact hrx h6.symm
      · exact h3 h6
    · exact h5 hi
  exact ⟨v, rfl, hf.blk h1 (hn r (by simp [wfp])), ownsRow_to h2 hf (fun g hg => hn g (by simp [wfp, hg])), h3, h4⟩
theorem RowI.lt {w : World} {r x : Nat} {T e : TypeId} {sz B len : Nat} {xs : List Value} {M : List Nat} {W : World} (h : RowI w r x T e sz B len xs M W) : ∀ i, i ∈ M → i < W.heap.size := fun i hi => by
  obtain ⟨v, rfl, h1, h2, _⟩ := h
  simp only [wfp, List.mem_cons, Option.mem_toList] at hi
  rcases hi with rfl | hi
  · exact lt_of h1
  · exact (h2.lt i hi).2
set_option maxRecDepth 2000000 in
set_option maxHeartbeats 3200000 in
theorem pack_in (a : Option Addr) (c : Nat) (l : List Nat) (w : World) (hs : SlOf U8 1 w a l) (hc : l.length ≤ c) (hl : l.length ≤ 10000) (h8 : ∀ v ∈ l, v ≤ 15) :
    CallsIn Fence.wide 4 Try.prog 58 #[.slice a l.length c] w fun e w' => ∃ v, e = .returned (.tuple #[v, .int .i64 0]) ∧ w'.ownsRow w.heap.size 119 2 v (packL l).length ((packL l).flatMap RunE) ∧ Fr [] w w' := by
  have HB := Lib.hid (And.intro hs (And.intro hc (And.intro hl h8)))
  have hli : (l.length : Int) ≤ 10000 := by omega
  clear hs hc hl h8
  refine callsIn_of_wp_marks Try.func58 rfl trivial ?_ rfl
  simp only [Try.ntmps58, List.size_toArray, List.length_cons, List.length_nil, Nat.reduceAdd, Nat.reduceSub, Array.replicate_succ, Array.replicate_zero, List.push_toArray, List.append_toArray, List.nil_append, List.cons_append]
  gi_wp2_with fail
  gi_loopw [9] (fun v9 wz => ∃ k : Nat, k ≤ l.length ∧ v9 = .int .i64 (k : Int) ∧ wz = w.alloc (.cells #[.slice none 0 0] 77)) (fun v9 _ => l.length - (intOf v9).toNat)
  case atStart => exact ⟨0, by omega, rfl, rfl⟩
  case round =>
    obtain ⟨k, hk, rfl, rfl⟩ := hrel
    by_cases hlt : k < l.length
    · have hki : (k : Int) < (l.length : Int) := by omega
      obtain ⟨u, hu⟩ : ∃ u, l[k]? = some u := ⟨l[k], List.getElem?_eq_getElem hlt⟩
      obtain ⟨b, o, rfl, hbl, hcell⟩ := (HB.out.1.fr0 (Fr.alloc _ w (.cells #[.slice none 0 0] 77))) (by intro h; rw [h] at hu; simp at hu)
      have c0 := hcell k u hu 0 (.int .u8 (u : Int)) rfl
      rw [Nat.mul_one, Nat.add_zero] at c0
      have hu15 : (u : Int) ≤ 15 := by have := HB.out.2.2.2 u (List.mem_of_getElem? hu); omega
      clear hcell hu
      gi_wp2_with fail
      go_roundw
      case rel => exact ⟨k + 1, by omega, by go_num, trivial⟩
      case measure => simp [intOf]; omega
    · have hki : (l.length : Int) ≤ (k : Int) := by omega
      clear hlt
      gi_wp2_with fail
      refine ⟨trivial, (callsIn_wide.2 (told_in a c l.length _)).mono ?_⟩
      rintro e w1 ⟨rfl, rfl⟩
      gi_wp2_with fail
      obtain ⟨W0, hW0⟩ : ∃ W0, (w.alloc (.cells #[.slice none 0 0] 77)).alloc (.cells #[.slice a l.length c] 25) = W0 := ⟨_, rfl⟩
      have hs0 : W0.heap.size = w.heap.size + 2 := by rw [← hW0]; simp
      have f0 : Fr [] w W0 := by rw [← hW0]; exact (Fr.alloc _ _ _).trans (Fr.alloc _ _ _)
      have x0 : W0.heap[w.heap.size]? = some (.cells #[.slice none 0 0] 77 (0, 0)) := by
        rw [← hW0]; exact (Fr.alloc [] _ _).blk (alloc_last w _) (by simp)
      have x1 : W0.heap[w.heap.size + 1]? = some (.cells #[.slice a l.length c] 25 (0, 0)) := by
        rw [← hW0]
        have := alloc_last (w.alloc (.cells #[.slice none 0 0] 77)) (.cells #[.slice a l.length c] 25)
        simpa using this
      rw [hW0]
      clear hW0
      obtain ⟨hs, hc, hl, h8⟩ := HB.out
      refine wpIn_iter (by omega) rfl (enters_of Try.func89 (by kernel_rfl) rfl) (told_iter 3 a c l (w.heap.size + 1) W0 (hs.fr0 f0) hc hl (fun v hv => by have := h8 v hv; omega) x1 (fun h => by have := hs.lt _ h; omega)) (fun _ => rfl) [w.heap.size]
        (fun k hk => ?_) (fun k hk => by simp at hk; omega)
        (fun pre M W => Fr [] w W ∧ RowI w w.heap.size (w.heap.size + 1) 77 119 2 w.heap.size pre.length (pre.flatMap fun x => RunE x.p) M W)
        (fun pre M X h => h.2.lt)
        (Stab.and (stab_fr (by omega) (by simp)) (stab_rowI (fun pre : List RunO => pre.length) (fun pre : List RunO => pre.flatMap fun x => RunE x.p) (by omega) (by omega)))
        ⟨f0, .slice none 0 0, rfl, x0, World.ownsRow_nil _ _ _ _, by simp [Value.ownBlock], by simp [Value.ownBlock]⟩ ?round ?done
      · simp only [List.mem_cons, List.not_mem_nil, or_false] at hk ⊢
        subst hk
        exact ⟨by omega, by omega, fun h => by have := hs.lt _ h; omega⟩
      case round =>
        rintro lp pre x M W hlp hlW ⟨hf, v, rfl, hx0, hrow, hvx, hvr⟩ hlM hlen
        obtain ⟨ao, cp, rfl⟩ := row_form hrow
        obtain ⟨v, hv⟩ : ∃ v, Value.slice ao pre.length cp = v := ⟨_, rfl⟩
        rw [hv] at hx0 hrow hvx hvr hlM ⊢
        obtain ⟨⟨p1, p2⟩, hp⟩ := x
        obtain ⟨y, hy⟩ : ∃ y : RunO, y = ⟨(p1, p2), hp⟩ := ⟨_, rfl⟩
        have HY := Lib.hid hy
        simp only [RunO.encs, RunO.p]
        gi_wp2_with fail
        refine ⟨Fr.alloc _ _ _, fun W2 f2 => ?_⟩
        have fa : Fr [lp] W W2 := (Fr.alloc [lp] _ _).trans f2
        have hnl : ∀ i, i ∈ wfp w.heap.size v → i ∉ [lp] := fun i hi h => by simp at h; subst h; exact hlM hi
        have z0 := fa.blk hx0 (hnl _ (by simp [wfp]))
        have zr := ownsRow_to hrow fa (fun g hg => hnl g (by simp [wfp, hg]))
        have zb := f2.blk (alloc_last W (.cells #[.int .u8 (p1 : Int), .int .u8 (p2 : Int)] 119)) (by simp; omega)
        have fw : Fr [] w W2 := fa.outL hf (by simp; omega)
        have b0 := cell_of zb 0
        have b1 := cell_of zb 1
        have c0 := cell_of z0 0
        simp at b0 b1 c0
        have hwz := fw.size
        obtain ⟨g, cap, w3, hr, hP⟩ := push_run (P := Try.prog) w.heap.size w W2 77 77 119 2 2 runElem v pre.length _ zr fw.below hwz #[.int .u8 (p1 : Int), .int .u8 (p2 : Int)] 1 1 rfl rfl (by omega) (by omega) (by omega)
        have hv0 : v.ownBlock ≠ some w.heap.size := hvr
        have z3 := hP.keep z0 hv0
        have c3 := cell_of z3 0
        have e3 := free_of z3 0
        simp at c3
        have HW := Lib.hid (And.intro fw (And.intro hP (And.intro z3 (And.intro hvx (And.intro hvr (And.intro fa.size (And.intro zb zr)))))))
        have HR := Lib.hid hr
        have HV := Lib.hid hv
        rw [← hv] at c0
        clear hx0 hrow hvx hvr hlM hlen fa hnl z0 zr zb fw hwz hP z3 hv0 hf hy hr hv
        gi_wp2_with (gi_at_builtin; refine wpListIn_push rfl (.tmp 19) (.tmp 21) 77 rfl HV.out rfl HR.out ?_)
        obtain ⟨fw, hP, z3, hvx, hvr, hWs, zb, zr⟩ := HW.out
        rw [HV.out, ← HY.out]
        have hW2 := fw.size
        have hgr : g ≠ w.heap.size := fun e => by
          rcases hP.or_ with h | h
          · exact hvr (by rw [h, e])
          · simp at h; omega
        have hgx : g ≠ w.heap.size + 1 := fun e => by
          rcases hP.or_ with h | h
          · exact hvx (by rw [h, e])
          · have h1 := lt_of zb
            simp at h
            have h2 := f2.size
            simp at h2
            omega
        have f3 : Fr (wfp w.heap.size v) W2 w3 := (Fr.alloc _ _ _).nil.trans ((fr_grown hP.grown).mono fun i hi => by simp [wfp] at hi ⊢; exact .inr hi) |> fun h => h
        have fs : Fr (wfp w.heap.size v) W2 (w3.setCell ⟨w.heap.size, 0, none⟩ (.slice (some ⟨g, 0, none⟩) (pre.length + 1) cap)) := f3.trans ((Fr.setCell _ _ _ _).mono fun i hi => by simp at hi; simp [wfp, hi])
        have hown : ∀ i, i ∈ wfp w.heap.size v → w.heap.size ≤ i := fun i hi => by
          simp only [wfp, List.mem_cons, Option.mem_toList] at hi
          rcases hi with rfl | hi
          · exact Nat.le_refl _
          · exact (zr.lt i hi).1
        refine ⟨wfp w.heap.size (.slice (some ⟨g, 0, none⟩) (pre.length + 1) cap), ⟨fs.outL fw (fun i hi => .inr (hown i hi)), _, rfl, ?_, ?_, ?_, ?_⟩, fs, ?_⟩
        · have := set_of z3 0 (.slice (some ⟨g, 0, none⟩) (pre.length + 1) cap)
          simpa using this
        · have h1 := ownsRow_setCell_other hP.own (a := ⟨w.heap.size, 0, none⟩) (by simp [Value.ownBlock]; exact hgr) (.slice (some ⟨g, 0, none⟩) (pre.length + 1) cap)
          rw [List.length_append, List.flatMap_append]
          have e1 : ([y] : List RunO).flatMap (fun x => RunE x.val) = [.int .u8 (p1 : Int), .int .u8 (p2 : Int)] := by rw [HY.out]; rfl
          rw [e1]
          exact h1
        · simp [Value.ownBlock]; exact hgx
        · simp [Value.ownBlock]; exact hgr
        · intro i hi
          simp [wfp, Value.ownBlock] at hi
          rcases hi with rfl | rfl
          · left; simp [wfp]
          · rcases hP.or_ with h | h
            · left; simp [wfp, h]
            · right; simp at h; omega
      case done =>
        rintro D ys M W hD hys ⟨hf, v, rfl, hx0, hrow, hvx, hvr⟩ hDM hK
        have c0 := cell_of hx0 0
        have d0 := free_of hx0 0
        simp at c0
        have HX := Lib.hid (And.intro hf (And.intro hx0 (And.intro hrow (And.intro hvr (And.intro hDM (And.intro hK hys))))))
        obtain ⟨ao, cp, hv⟩ := row_form hrow
        rw [hv] at c0
        clear hf hx0 hrow hvx hvr hDM hK hys
        gi_wp2_with fail
        obtain ⟨hf, hx0, hrow, hvr, hDM, hK, hys⟩ := HX.out
        rw [hv] at hrow hvr hDM
        have fs := Fr.setCell W w.heap.size 0 (.slice ao ys.length cp)
        have s1 := set_of hx0 0 (.slice ao ys.length cp)
        have r1 := ownsRow_setCell_other hrow (a := ⟨w.heap.size, 0, none⟩) hvr (.slice ao ys.length cp)
        have hDr : D ≠ w.heap.size := fun e => hDM (by rw [e]; simp [wfp])
        have hK' := fs.blk hK (by simp; exact hDr)
        refine ⟨by simp, .inl ⟨_, _, rfl, run_takeDeferred hK', ?_⟩⟩
        have fp := fr_put (.deferred none) hK'
        have s2 := fp.blk s1 (by simp; exact fun e => hDr e.symm)
        have c2 := cell_of s2 0
        simp at c2
        have r2 := ownsRow_to r1 fp (fun g hg h => by
          simp at h
          subst h
          exact hDM (by simp [wfp, hg]))
        have e1 : (packL l).flatMap RunE = ys.flatMap fun x => RunE x.p := by
          rw [← hys]; exact flatMap_map' _ _ _
        have e2 : (packL l).length = ys.length := by rw [← hys, List.length_map]
        rw [e1, e2]
        refine ⟨.tuple #[.slice ao ys.length cp, .int .i64 0], by simp [results, Try.results58, go_sem, c2], _, rfl, r2, fp.outL (fs.outL hf (by simp)) (by simp; omega)⟩
theorem rpack_ok (a : Option Addr) (c : Nat) (l : List Nat) (w : World) (hs : SlOf U8 1 w a l) (hc : l.length ≤ c) (hl : l.length ≤ 10000) (h8 : ∀ v ∈ l, v ≤ 15) :
    Calls Try.prog 58 #[.slice a l.length c] w fun e w' => ∃ v, e = .returned (.tuple #[v, .int .i64 0]) ∧ w'.ownsRow w.heap.size 119 2 v (packL l).length ((packL l).flatMap RunE) ∧ Fr [] w w' := callsIn_wide.1 (pack_in a c l w hs hc hl h8)
end Go.Proofs.Ytciejmlhdmjajaa

