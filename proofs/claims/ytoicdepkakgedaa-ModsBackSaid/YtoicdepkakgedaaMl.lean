/- Package mods: Diff. -/
import Derived.Test.YtoicdepkakgedaaMk
import Derived.Test.YtoicdepkakgedaaTm
import Derived.RangeFuncNested
namespace Go.Proofs.Ytoicdepkakgedaa
open Go.RowKit Go.Shelf
set_option linter.unusedVariables false
set_option linter.unusedSimpArgs false
attribute [local go_sem] Oper.semAt_some

def rnM (b : ByteArray) {n : Nat} (x : Rn n) : Md := runM b x.r
theorem modinfo : ∃ i0 : TypeInfo, Try.prog.info? 34 = some i0 ∧ i0.zero = some (.agg #[.int .i64 0, .string ByteArray.empty]) ∧ i0.size = 2 ∧ i0.bytes = 24 :=
  info_parts (show (Try.prog.info? 34).map (fun i => (i.zero, i.size, i.bytes)) = some (some (.agg #[.int .i64 0, .string ByteArray.empty]), 2, 24) by kernel_rfl)

set_option maxRecDepth 2000000 in
set_option maxHeartbeats 4000000 in
theorem diff_ok (a b : ByteArray) (w : World) (ha : a.size ≤ 1000000000) (hp : pageB a.size = true) (hab : a.size = b.size) : CallsIn Fence.wide 4 Try.prog 25 #[.string a, .string b] w (DiffPost a b w) := by
  have HOK := Lib.hid (dif_ok (a := a) (b := b) (by unfold difB; rw [hp, decide_eq_true hab]; rfl))
  have HP := Lib.hid (And.intro hp hab)
  have hne : ((a.size : Int) != (b.size : Int)) = false := by rw [bne_eq_false_iff_eq]; omega
  clear hp hab
  refine callsIn_of_wp_marks Try.func25 rfl trivial ?_ rfl
  simp only [Try.ntmps25, List.size_toArray, List.length_cons, List.length_nil, Nat.reduceAdd, Nat.reduceSub, Array.replicate_succ, Array.replicate_zero, List.push_toArray, List.append_toArray, List.nil_append, List.cons_append]
  gi_wp2_with fail
  refine ⟨trivial, (callsIn_wide.2 (page_any a.size _)).mono ?_⟩
  rintro e w1 ⟨rfl, rfl⟩
  rw [HP.out.1]
  gi_wp2_with fail
  refine ⟨trivial, (callsIn_wide.2 (runs_in a b _)).mono ?_⟩
  rintro e w1 ⟨rfl, rfl⟩
  gi_wp2_with fail
  clear hne
  obtain ⟨i0, hi0, hz0, hz1, hz2⟩ := modinfo
  obtain ⟨W0, hW0⟩ : ∃ W0, (((w.alloc (.cells #[.string b] 9)).alloc (.cells #[.slice none 0 0] 22)).alloc (.cells #[.string a] 9)).alloc (.cells #[.string b] 9) = W0 := ⟨_, rfl⟩
  have hs0 : W0.heap.size = w.heap.size + 4 := by rw [← hW0]; simp
  have hB0 : Below w.heap.size w W0 := by rw [← hW0]; exact ((((Below.refl _ w).alloc (Nat.le_refl _) _).alloc (by simp) _).alloc (by simp; omega) _).alloc (by simp; omega) _
  have b0 : Boxed W0 w.heap.size 9 (.string b) := by rw [← hW0]; exact (((Boxed.new w _ _).alloc _).alloc _).alloc _
  have b1 : Boxed W0 (w.heap.size + 1) 22 (.slice none 0 0) := by
    have := ((Boxed.new (w.alloc (.cells #[.string b] 9)) 22 (.slice none 0 0)).alloc (.cells #[.string a] 9)).alloc (.cells #[.string b] 9)
    rw [hW0] at this; simpa using this
  have b2 : Boxed W0 (w.heap.size + 1 + 1) 9 (.string a) := by
    have := (Boxed.new ((w.alloc (.cells #[.string b] 9)).alloc (.cells #[.slice none 0 0] 22)) 9 (.string a)).alloc (.cells #[.string b] 9)
    rw [hW0] at this; simpa using this
  have b3 : Boxed W0 (w.heap.size + 1 + 1 + 1) 9 (.string b) := by
    have := Boxed.new (((w.alloc (.cells #[.string b] 9)).alloc (.cells #[.slice none 0 0] 22)).alloc (.cells #[.string a] 9)) 9 (.string b)
    rw [hW0] at this; simpa using this
  rw [hW0]
  refine wpIn_rangeFunc_ownG rfl (by omega) (gf := 37) (lb := #[.pointer (some ⟨w.heap.size + 1 + 1, 0, none⟩), .pointer (some ⟨w.heap.size + 1 + 1 + 1, 0, none⟩)]) rfl trivial (enters_of Try.func37 (by kernel_rfl) rfl)
    (runs_stops 3 a b ha HP.out.2 (w.heap.size + 1 + 1) (w.heap.size + 1 + 1 + 1) W0 b2 b3) (fun h k => ⟨k.1.trans h.1, k.2.trans h.2⟩)
    (fun W l o o' hl ho _ _ => ⟨World.putObj_heap_other (by omega), World.putObj_heap_other (by omega)⟩) (Below.refl _ _) (fun _ => rfl)
    (fun (pre : List (Rn a.size)) W => (∃ v, Boxed W (w.heap.size + 1) 22 v ∧ W.ownsRow w.heap.size 34 2 v pre.length ((pre.map (rnM b)).flatMap Md.enc) ∧ True) ∧ (Below w.heap.size w W ∧ (Boxed W w.heap.size 9 (.string b) ∧ (Boxed W (w.heap.size + 1 + 1) 9 (.string a) ∧ Boxed W (w.heap.size + 1 + 1 + 1) 9 (.string b)))))
    (fun _ _ _ => False)
    (OwnFrom.and (Own.from (holdsRow_own w.heap.size (w.heap.size + 1) 22 34 2 (fun pre : List (Rn a.size) => pre.length) (fun pre : List (Rn a.size) => (pre.map (rnM b)).flatMap Md.enc) (fun _ _ => True)) _)
      (OwnFrom.and (ownFrom_below (Nat.le_refl _) (by omega)) (OwnFrom.and (Own.from (boxed_own _ _ (fun _ => _)) _) (OwnFrom.and (Own.from (boxed_own _ _ (fun _ => _)) _) (Own.from (boxed_own _ _ (fun _ => _)) _)))))
    (fun _ _ _ _ _ hs _ _ => hs)
    ⟨⟨_, b1, World.ownsRow_nil _ _ _ _, trivial⟩, hB0, b0, b2, b3⟩
    (fun x => { tmps := #[.string a, .string b, undef, .pointer (some ⟨w.heap.size, 0, none⟩), .pointer (some ⟨w.heap.size + 1, 0, none⟩), .int .i64 0, .int .i64 (x.r.1 : Int), .int .i64 (x.r.2 : Int), .string a, .int .i64 (a.size : Int), .bool true, .bool false, .bool false, .string a, .int .i64 (a.size : Int), .string b, .int .i64 (b.size : Int), .bool false, .bool false, .string a, .string b, .func (.func 37) #[] #[.pointer (some ⟨w.heap.size + 1 + 1, 0, none⟩), .pointer (some ⟨w.heap.size + 1 + 1 + 1, 0, none⟩)], .int .i64 (x.r.1 : Int), .int .i64 (x.r.2 : Int), undef, undef, undef, undef, undef, undef, undef, undef, undef, undef], defers := [] }) ?assign ?body ?done ?stop
  case assign =>
    intro l x W K hK
    simp only [Rn.encs]
    gi_wp2
    exact hK
  case body =>
    rintro l pre x W ⟨⟨v, hv, hrow, _⟩, hB, hb0, hb2, hb3⟩ hlt
    obtain ⟨⟨from_, to_⟩, hft, htn⟩ := x
    simp only at hft htn
    have hc := hv.cell
    have hvl := hv.lt
    have hbc := hb0.cell
    have hbs : b.size = a.size := HP.out.2.symm
    have hfi : (from_ : Int) ≤ 1000000000 := by omega
    obtain ⟨tx, htx⟩ : ∃ tx, b.extract from_ to_ = tx := ⟨_, rfl⟩
    have hsl : ∀ W, (Instr.slice 9 (.string b) (some (.int .i64 (from_ : Int))) (some (.int .i64 (to_ : Int))) none).run Try.prog W = .ok (.string tx) W := fun W => by
      have := run_slice_string (P := Try.prog) (w := W) 9 b .i64 .i64 (from_ : Int) (to_ : Int) Try.underlying9 (by omega) (by omega) (by omega)
      rw [← htx]
      simpa using this
    obtain ⟨g, cap, w1, hr, hown1, hgrow1, hat1, hlt1⟩ := run_append_lies (P := Try.prog) ((W.alloc (.cells #[.int .i64 (from_ : Int), .string tx] 34)).drew) 22 22 w.heap.size 34 i0 _ 2 24 Try.underlying22 hi0 hz0 hz1 hz2 rfl (by omega) v pre.length _ (show World.ownsRow _ _ _ _ _ _ _ from hrow.alloc _) ⟨W.heap.size, 0, none⟩ 1 1 [.int .i64 (from_ : Int), .string tx] rfl
      (World.news_of_block (show ((W.alloc (.cells #[.int .i64 (from_ : Int), .string tx] 34)).drew).heap[W.heap.size]? = _ from heap_alloc_new W _)) (fun u hu => by simp at hu; rcases hu with rfl | rfl <;> rfl) (by omega) (by unfold maxLen; omega) (by omega) (by have := hB.size; simp; omega) _ rfl
    have hgrow1' : (W.alloc (.cells #[.int .i64 (from_ : Int), .string tx] 34)).grownBy w1 v.ownBlock := ⟨hgrow1.os, hgrow1.tape, hgrow1.output, hgrow1.size, hgrow1.block⟩
    obtain ⟨hv1, hv2, hr2, hk2, hb2'⟩ := hv.appended (by decide) hrow hB.size (by omega) hown1 hgrow1'
    have hc1 := hv1.cell
    have hf1 := hv1.frozen
    have ht0 : Boxed (w1.setCell ⟨w.heap.size + 1, 0, none⟩ (.slice (some ⟨g, 0, none⟩) (pre.length + 1) cap)) w.heap.size 9 (.string b) := ((hb0.alloc _).kept hgrow1' (hb0.not_row (by decide) hrow)).other (by omega) _
    have ht2 : Boxed (w1.setCell ⟨w.heap.size + 1, 0, none⟩ (.slice (some ⟨g, 0, none⟩) (pre.length + 1) cap)) (w.heap.size + 1 + 1) 9 (.string a) := ((hb2.alloc _).kept hgrow1' (hb2.not_row (by decide) hrow)).other (by omega) _
    have ht3 : Boxed (w1.setCell ⟨w.heap.size + 1, 0, none⟩ (.slice (some ⟨g, 0, none⟩) (pre.length + 1) cap)) (w.heap.size + 1 + 1 + 1) 9 (.string b) := ((hb3.alloc _).kept hgrow1' (hb3.not_row (by decide) hrow)).other (by omega) _
    have HX := Lib.hid (And.intro hv2 (And.intro hr2 (And.intro hk2 (And.intro hb2' (And.intro ht0 (And.intro ht2 (And.intro ht3 (And.intro hB (And.intro hb2 (And.intro hb3 htx))))))))))
    clear hv hrow hB hb0 hb2 hb3 hown1 hgrow1 hat1 hlt1 hgrow1' hv1 hv2 hr2 hk2 hb2' ht0 ht2 ht3 htx hlt hbs
    have HR := Lib.hid hr
    clear hr
    have FIN := Lib.hid (show KeepsFrom W0.heap.size W (w1.setCell ⟨w.heap.size + 1, 0, none⟩ (.slice (some ⟨g, 0, none⟩) (pre.length + 1) cap)) ∧ Kp2 (w.heap.size + 1 + 1) (w.heap.size + 1 + 1 + 1) W (w1.setCell ⟨w.heap.size + 1, 0, none⟩ (.slice (some ⟨g, 0, none⟩) (pre.length + 1) cap)) ∧ _ from by
      obtain ⟨q1, q2, q3, q4, q5, q6, q7, q8, q9, q10, q11⟩ := HX.out
      refine ⟨q3.from _, ⟨(show _ = _ from q6).trans (show _ = _ from q9).symm, (show _ = _ from q7).trans (show _ = _ from q10).symm⟩, (show (∃ v, Boxed (w1.setCell ⟨w.heap.size + 1, 0, none⟩ (.slice (some ⟨g, 0, none⟩) (pre.length + 1) cap)) (w.heap.size + 1) 22 v ∧ (w1.setCell ⟨w.heap.size + 1, 0, none⟩ (.slice (some ⟨g, 0, none⟩) (pre.length + 1) cap)).ownsRow w.heap.size 34 2 v (pre ++ [(⟨(from_, to_), hft, htn⟩ : Rn a.size)]).length (((pre ++ [(⟨(from_, to_), hft, htn⟩ : Rn a.size)]).map (rnM b)).flatMap Md.enc) ∧ True) ∧ (Below w.heap.size w (w1.setCell ⟨w.heap.size + 1, 0, none⟩ (.slice (some ⟨g, 0, none⟩) (pre.length + 1) cap)) ∧ (Boxed (w1.setCell ⟨w.heap.size + 1, 0, none⟩ (.slice (some ⟨g, 0, none⟩) (pre.length + 1) cap)) w.heap.size 9 (.string b) ∧ (Boxed (w1.setCell ⟨w.heap.size + 1, 0, none⟩ (.slice (some ⟨g, 0, none⟩) (pre.length + 1) cap)) (w.heap.size + 1 + 1) 9 (.string a) ∧ Boxed (w1.setCell ⟨w.heap.size + 1, 0, none⟩ (.slice (some ⟨g, 0, none⟩) (pre.length + 1) cap)) (w.heap.size + 1 + 1 + 1) 9 (.string b)))) from ?_)⟩
      refine ⟨⟨_, q1, ?_, trivial⟩, q8.trans q4, q5, q6, q7⟩
      rw [List.map_append, List.flatMap_append, List.length_append]
      have e : ([(⟨(from_, to_), hft, htn⟩ : Rn a.size)].map (rnM b)).flatMap Md.enc = [.int .i64 (from_ : Int), .string tx] := by simp [rnM, runM, Md.enc, q11]
      rw [e]
      exact q2)
    refine wpIn_block ?_
    refine wpIn_region_tame (by kernel_rfl) (fun h => ?_) (fun i o ho => ?_) ?_
    · obtain ⟨a', w', h⟩ := h; exact h
    · have hi : i < 10 := by
        rcases Nat.lt_or_ge i 10 with h | h
        · exact h
        · rw [Array.getElem?_eq_none (by simpa using h)] at ho; cases ho
      rcases (show i = 0 ∨ i = 1 ∨ i = 2 ∨ i = 3 ∨ i = 4 ∨ i = 5 ∨ i = 6 ∨ i = 7 ∨ i = 8 ∨ i = 9 by omega) with rfl | rfl | rfl | rfl | rfl | rfl | rfl | rfl | rfl | rfl
      all_goals (injection ho with ho; subst ho)
      all_goals first
        | exact Tame.append _ _ _ _ rfl
        | exact Tame.of_value (fun c h => by cases h) (fun c h => by cases h) (fun ρ w => trivial)
        | exact Tame.of_value (fun c h => by cases h) (fun c h => by cases h) (fun ρ w => calm_value _ _)
        | exact Tame.of_value (fun c h => by cases h) (fun c h => by cases h) (fun ρ w => calm_skip _ _)
    · refine wpAny_take (i := 1) (v := ?_) rfl (by kernel_rfl) (by kernel_rfl) (by kernel_rfl) (fun _ _ _ h => h) (Or.inl ⟨by rfl, ?_⟩) ?_
      rotate_left
      · intro w; rfl
      refine wpAny_take (i := 3) (v := ?_) rfl (by kernel_rfl) (by kernel_rfl) (by kernel_rfl) (fun _ _ _ h => h) (Or.inl ⟨by rfl, ?_⟩) ?_
      rotate_left
      · intro w; rfl
      refine wpAny_take (i := 4) (v := ?_) rfl (by kernel_rfl) (by kernel_rfl) (by kernel_rfl) (fun _ _ _ h => h) (Or.inl ⟨by rfl, ?_⟩) ?_
      rotate_left
      · intro w; rfl
      refine wpAny_ready (rs := [0, 2]) (by kernel_rfl) (by simp) ?_
      refine AllReady.cons rfl (fun K hK => ?_) ?_
      · skip
        go_simp
        refine hK _ _ ?_
        clear hK K
        refine wpAny_ready (rs := [2]) (by kernel_rfl) (by simp) ?_
        refine AllReady.cons rfl (fun K hK => ?_) ?_
        · skip
          go_simp
          refine hK _ _ ?_
          clear hK K
          refine wpAny_ready (rs := [5]) (by kernel_rfl) (by simp) ?_
          refine AllReady.cons rfl (fun K hK => ?_) ?_
          · skip
            go_simp
            refine hK _ _ ?_
            clear hK K
            refine wpAny_ready (rs := [6]) (by kernel_rfl) (by simp) ?_
            refine AllReady.cons rfl (fun K hK => ?_) ?_
            · skip
              go_simp
              refine hK _ _ ?_
              clear hK K
              refine wpAny_ready (rs := [7]) (by kernel_rfl) (by simp) ?_
              refine AllReady.cons rfl (fun K hK => ?_) ?_
              · skip
                go_simp
                refine hK _ _ ?_
                clear hK K
                refine wpAny_ready (rs := [8]) (by kernel_rfl) (by simp) ?_
                refine AllReady.cons rfl (fun K hK => ?_) ?_
                · skip
                  refine step_append_run rfl (.tmp 24) (.tmp 31) 22 rfl rfl rfl HR.out ?_
                  refine hK _ _ ?_
                  clear hK K
                  refine wpAny_ready (rs := [9]) (by kernel_rfl) (by simp) ?_
                  refine AllReady.cons rfl (fun K hK => ?_) ?_
                  · skip
                    go_simp
                    refine hK _ _ ?_
                    clear hK K
                    refine wpAny_done (by kernel_rfl) ?_ _
                    exact FIN.out
                  exact AllReady.nil
                exact AllReady.nil
              exact AllReady.nil
            exact AllReady.nil
          exact AllReady.nil
        exact AllReady.nil
      refine AllReady.cons rfl (fun K hK => ?_) ?_
      · skip
        go_simp
        refine hK _ _ ?_
        clear hK K
        refine wpAny_ready (rs := [0, 5]) (by kernel_rfl) (by simp) ?_
        refine AllReady.cons rfl (fun K hK => ?_) ?_
        · skip
          go_simp
          refine hK _ _ ?_
          clear hK K
          refine wpAny_ready (rs := [5]) (by kernel_rfl) (by simp) ?_
          refine AllReady.cons rfl (fun K hK => ?_) ?_
          · skip
            go_simp
            refine hK _ _ ?_
            clear hK K
            refine wpAny_ready (rs := [6]) (by kernel_rfl) (by simp) ?_
            refine AllReady.cons rfl (fun K hK => ?_) ?_
            · skip
              go_simp
              refine hK _ _ ?_
              clear hK K
              refine wpAny_ready (rs := [7]) (by kernel_rfl) (by simp) ?_
              refine AllReady.cons rfl (fun K hK => ?_) ?_
              · skip
                go_simp
                refine hK _ _ ?_
                clear hK K
                refine wpAny_ready (rs := [8]) (by kernel_rfl) (by simp) ?_
                refine AllReady.cons rfl (fun K hK => ?_) ?_
                · skip
                  refine step_append_run rfl (.tmp 24) (.tmp 31) 22 rfl rfl rfl HR.out ?_
                  refine hK _ _ ?_
                  clear hK K
                  refine wpAny_ready (rs := [9]) (by kernel_rfl) (by simp) ?_
                  refine AllReady.cons rfl (fun K hK => ?_) ?_
                  · skip
                    go_simp
                    refine hK _ _ ?_
                    clear hK K
                    refine wpAny_done (by kernel_rfl) ?_ _
                    exact FIN.out
                  exact AllReady.nil
                exact AllReady.nil
              exact AllReady.nil
            exact AllReady.nil
          exact AllReady.nil
        refine AllReady.cons rfl (fun K hK => ?_) ?_
        · skip
          go_simp
          refine hK _ _ ?_
          clear hK K
          refine wpAny_ready (rs := [0, 6]) (by kernel_rfl) (by simp) ?_
          refine AllReady.cons rfl (fun K hK => ?_) ?_
          · skip
            go_simp
            refine hK _ _ ?_
            clear hK K
            refine wpAny_ready (rs := [6]) (by kernel_rfl) (by simp) ?_
            refine AllReady.cons rfl (fun K hK => ?_) ?_
            · skip
              go_simp
              refine hK _ _ ?_
              clear hK K
              refine wpAny_ready (rs := [7]) (by kernel_rfl) (by simp) ?_
              refine AllReady.cons rfl (fun K hK => ?_) ?_
              · skip
                go_simp
                refine hK _ _ ?_
                clear hK K
                refine wpAny_ready (rs := [8]) (by kernel_rfl) (by simp) ?_
                refine AllReady.cons rfl (fun K hK => ?_) ?_
                · skip
                  refine step_append_run rfl (.tmp 24) (.tmp 31) 22 rfl rfl rfl HR.out ?_
                  refine hK _ _ ?_
                  clear hK K
                  refine wpAny_ready (rs := [9]) (by kernel_rfl) (by simp) ?_
                  refine AllReady.cons rfl (fun K hK => ?_) ?_
                  · skip
                    go_simp
                    refine hK _ _ ?_
                    clear hK K
                    refine wpAny_done (by kernel_rfl) ?_ _
                    exact FIN.out
                  exact AllReady.nil
                exact AllReady.nil
              exact AllReady.nil
            exact AllReady.nil
          refine AllReady.cons rfl (fun K hK => ?_) ?_
          · skip
            go_simp
            refine hK _ _ ?_
            clear hK K
            refine wpAny_ready (rs := [0, 7]) (by kernel_rfl) (by simp) ?_
            refine AllReady.cons rfl (fun K hK => ?_) ?_
            · skip
              go_simp
              refine hK _ _ ?_
              clear hK K
              refine wpAny_ready (rs := [7]) (by kernel_rfl) (by simp) ?_
              refine AllReady.cons rfl (fun K hK => ?_) ?_
              · skip
                go_simp
                refine hK _ _ ?_
                clear hK K
                refine wpAny_ready (rs := [8]) (by kernel_rfl) (by simp) ?_
                refine AllReady.cons rfl (fun K hK => ?_) ?_
                · skip
                  refine step_append_run rfl (.tmp 24) (.tmp 31) 22 rfl rfl rfl HR.out ?_
                  refine hK _ _ ?_
                  clear hK K
                  refine wpAny_ready (rs := [9]) (by kernel_rfl) (by simp) ?_
                  refine AllReady.cons rfl (fun K hK => ?_) ?_
                  · skip
                    go_simp
                    refine hK _ _ ?_
                    clear hK K
                    refine wpAny_done (by kernel_rfl) ?_ _
                    exact FIN.out
                  exact AllReady.nil
                exact AllReady.nil
              exact AllReady.nil
            refine AllReady.cons rfl (fun K hK => ?_) ?_
            · skip
              go_simp
              refine hK _ _ ?_
              clear hK K
              refine wpAny_ready (rs := [0]) (by kernel_rfl) (by simp) ?_
              refine AllReady.cons rfl (fun K hK => ?_) ?_
              · skip
                go_simp
                refine hK _ _ ?_
                clear hK K
                refine wpAny_ready (rs := [8]) (by kernel_rfl) (by simp) ?_
                refine AllReady.cons rfl (fun K hK => ?_) ?_
                · skip
                  refine step_append_run rfl (.tmp 24) (.tmp 31) 22 rfl rfl rfl HR.out ?_
                  refine hK _ _ ?_
                  clear hK K
                  refine wpAny_ready (rs := [9]) (by kernel_rfl) (by simp) ?_
                  refine AllReady.cons rfl (fun K hK => ?_) ?_
                  · skip
                    go_simp
                    refine hK _ _ ?_
                    clear hK K
                    refine wpAny_done (by kernel_rfl) ?_ _
                    exact FIN.out
                  exact AllReady.nil
                exact AllReady.nil
              exact AllReady.nil
            exact AllReady.nil
          exact AllReady.nil
        exact AllReady.nil
      exact AllReady.nil
  case done =>
    rintro D ys W hD hys ⟨⟨v, hv, hrow, _⟩, hB, _⟩ hK
    obtain ⟨ao, cap, rfl⟩ := row_form hrow
    have hc := hv.cell
    have hf := hv.frozen
    gi_wp2
    have hK' : (W.setCell ⟨w.heap.size + 1, 0, none⟩ (.slice ao ys.length cap)).heap[D]? = some (.deferred (some [])) := (KeepsOthers.setCell _ _ _).same D _ hK rfl
    refine ⟨by simp, .inl ⟨_, _, rfl, run_takeDeferred hK', ?_⟩⟩
    have hv2 : Boxed ((W.setCell ⟨w.heap.size + 1, 0, none⟩ (.slice ao ys.length cap)).putObj D (.deferred none)) (w.heap.size + 1) 22 (.slice ao ys.length cap) := (hv.set _).kept (grownBy_putObj' _ D _) (fun e => by cases e; omega)
    have hc2 := hv2.cell
    refine ⟨.tuple #[.slice ao ys.length cap, .int .i64 0], ?_, ?_⟩
    · simp [results, Try.results25, go_sem, hc2]
    · have hmap : (dlist (differs a b) a.size).map (runM b) = ys.map (rnM b) := by rw [← hys, List.map_map]; rfl
      refine ⟨_, by rw [HOK.out.2], ?_, ?_⟩
      · rw [HOK.out.1, hmap, List.length_map]
        exact ownsRow_putObj (hrow.kept (grownBy_setCell' W (w.heap.size + 1) _) (.inr (hv.not_row (by decide) hrow).symm)) _ hK' rfl
      · exact Fr.of_below ((hB.setCell (p := ⟨w.heap.size + 1, 0, none⟩) (Nat.le_succ _) _).trans (belowK_b (w := w) (Nat.le_refl _) _ D _ _ (by omega) hK' rfl rfl))
  case stop =>
    rintro D c pre W _ _ h _
    exact h.elim

set_option maxRecDepth 2000000 in
set_option maxHeartbeats 1600000 in
theorem diff_any (a b : ByteArray) (w : World) (ha : a.size ≤ 1000000000) (hb : b.size ≤ 1000000000) : Calls Try.prog 25 #[.string a, .string b] w (DiffPost a b w) := by
  cases hp : pageB a.size with
  | true =>
    by_cases hab : a.size = b.size
    · exact callsIn_wide.1 (diff_ok a b w ha hp hab)
    · obtain ⟨e1, e2⟩ := dif_bad (a := a) (b := b) (by unfold difB; rw [decide_eq_false hab]; simp)
      have HE := Lib.hid (And.intro hp (And.intro e1 e2))
      have hne : ((a.size : Int) != (b.size : Int)) = true := by rw [bne_iff_ne]; omega
      clear hp e1 e2 hab
      go_enter Try.func25, Try.ntmps25
      go_wp2_with fail
      refine (page_any a.size _).mono ?_
      rintro e w1 ⟨rfl, rfl⟩
      rw [HE.out.1]
      go_wp2_with fail
      refine bodyPost_ret (v := .tuple #[.slice none 0 0, .int .i64 2]) (by simp [results, Try.results25, go_sem]) rfl ?_
      unfold DiffPost
      rw [HE.out.2.1, HE.out.2.2]
      exact ⟨_, rfl, World.ownsRow_nil _ _ _ _, (Fr.alloc _ _ _).trans (Fr.of_below ((Below.refl _ _).alloc (Nat.le_refl _) _))⟩
  | false =>
    obtain ⟨e1, e2⟩ := dif_bad (a := a) (b := b) (by unfold difB; rw [hp]; rfl)
    have HE := Lib.hid (And.intro hp (And.intro e1 e2))
    clear hp e1 e2
    go_enter Try.func25, Try.ntmps25
    go_wp2_with fail
    refine (page_any a.size _).mono ?_
    rintro e w1 ⟨rfl, rfl⟩
    rw [HE.out.1]
    go_wp2_with fail
    refine bodyPost_ret (v := .tuple #[.slice none 0 0, .int .i64 2]) (by simp [results, Try.results25, go_sem]) rfl ?_
    unfold DiffPost
    rw [HE.out.2.1, HE.out.2.2]
    exact ⟨_, rfl, World.ownsRow_nil _ _ _ _, (Fr.alloc _ _ _).trans (Fr.of_below ((Below.refl _ _).alloc (Nat.le_refl _) _))⟩
end Go.Proofs.Ytoicdepkakgedaa
