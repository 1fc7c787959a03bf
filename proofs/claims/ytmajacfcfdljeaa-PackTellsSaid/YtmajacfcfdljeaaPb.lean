/- merge: leaves and packages in one row. -/
import Derived.Test.YtmajacfcfdljeaaPa
namespace Go.Proofs.Ytmajacfcfdljeaa
open Go.RowKit
set_option linter.unusedVariables false
set_option linter.unusedSimpArgs false

theorem Trow.news {w : World} {g n : Nat} {F : Nat → Th} (h : Trow w g n F) : ∀ j u, ((List.range n).flatMap fun k => Te (F k))[j]? = some u → w.cell? ((⟨g, 0, none⟩ : Addr).add j) = some u := fun j u hu => by
  have hl : ((List.range n).flatMap (fun i => Te (F i))).length = 3 * n := by rw [flatMap_three _ (fun i => te_len (F i)), List.length_range]
  have hj : j < 3 * n := by rw [← hl]; exact (List.getElem?_eq_some_iff.1 hu).1
  rw [add_none, Nat.zero_add]
  obtain ⟨rest, h⟩ := h
  rw [cell_of h]
  simp only [List.getElem?_toArray]
  rw [List.getElem?_append_left (by rw [hl]; exact hj)]
  exact hu
theorem flat_one (F : Nat → Th) (l : List Nat) : ∀ u ∈ l.flatMap (fun k => Te (F k)), u.oneCell' = true := by
  intro u hu
  obtain ⟨k, _, hk⟩ := List.mem_flatMap.1 hu
  simp [Te] at hk
  rcases hk with rfl | rfl | rfl <;> rfl
set_option maxHeartbeats 800000 in
/-- A row of things is put behind an own row. -/
theorem wpList_cat (B : Nat) (W w0 : World) {ops : Array Oper} {rest : List Oper} {o : Oper} {a : Act} {Q : Exit → Act → World → Prop} (hgd : o.guard = none) (s x : Operand)
    (ho : o.op = .call { callee := .builtin .append, args := #[s, x], argTypes := #[44, 44] })
    (v : Value) (n : Nat) (xs : List Value) (hs : a.eval s = v) (hown : Hid (w0.ownsRow B 49 3 v n xs)) (hB : Hid (Below B W w0)) (hBs : B ≤ w0.heap.size)
    (g m c : Nat) (F : Nat → Th) (hx : a.eval x = .slice (some ⟨g, 0, none⟩) m c) (hT : Hid (Trow w0 g m F)) (hm : 0 < m) (hnm : n + m ≤ 1000)
    (h : ∀ g' cap w', Hid (w'.ownsRow B 49 3 (.slice (some ⟨g', 0, none⟩) (n + m) cap) (n + m) (xs ++ (List.range m).flatMap fun k => Te (F k)) ∧ Below B W w') → wpList Try.prog ops Q rest (a.put o.dst (.slice (some ⟨g', 0, none⟩) (n + m) cap)) w') :
    wpList Try.prog ops Q (o :: rest) a w0 := by
  obtain ⟨ht, i, z, hi, hz, hsz, hby, hzs, hpos⟩ := elemT
  refine wpList_append_lies _ hgd s x _ ho B _ i z 3 24 ht hi hz hsz hby hzs hpos v n xs hs hown.out ⟨g, 0, none⟩ m c ((List.range m).flatMap fun k => Te (F k)) hx (by rw [flatMap_three _ (fun i => te_len (F i)), List.length_range, Nat.mul_comm]) hT.out.news (flat_one F _) hm (by unfold maxLen; omega) (by omega) hBs _ rfl ?_
  intro g' cap w' k1 k2 k3 k4
  exact h g' cap w' (Lib.hid ⟨k1, below_grown hB.out k2 hBs (fun g'' hg'' => (hown.out.lt g'' hg'').1)⟩)

set_option maxRecDepth 2000000 in
set_option maxHeartbeats 3200000 in
theorem clone_any (g n c : Nat) (F : Nat → Th) (w : World) (h : Trow w g n F) (h0 : 0 < n) (hn : n ≤ 1000) :
    Calls Try.prog 28 #[.slice (some ⟨g, 0, none⟩) n c] w fun e w' => ∃ v, e = .returned v ∧ w'.ownsRow w.heap.size 49 3 v n ((List.range n).flatMap fun k => Te (F k)) ∧ Below w.heap.size w w' := by
  have hA := new_of w (.cells #[] 49)
  have HT := Lib.hid (h.to (Fr.alloc [] w (.cells #[] 49)) (by simp))
  have HO : Hid ((w.alloc (.cells #[] 49)).ownsRow w.heap.size 49 3 (.slice (some ⟨w.heap.size, 0, none⟩) 0 0) 0 []) := Lib.hid ⟨rfl, .inr ⟨w.heap.size, 0, #[], rfl, Nat.le_refl _, hA, Nat.le_refl _, by unfold maxLen; omega, rfl, rfl⟩⟩
  have HB := Lib.hid (Fr.alloc [] w (.cells #[] 49)).below
  have hsz := (Fr.alloc [] w (.cells #[] 49)).size
  clear h hA
  have hnil : (binOp BinOp.eql 44 (.slice (some ⟨g, 0, none⟩) n c) (.slice none 0 0)).run Try.prog w = .ok (.bool false) w := by kernel_rfl
  go_enter Try.func28, Try.ntmps28
  go_wp2_with (at_builtin; go_must (refine wpList_cat w.heap.size w (w.alloc (.cells #[] 49)) rfl (.tmp 5) (.tmp 6) rfl _ 0 [] rfl HO HB hsz g n c F rfl HT h0 (by omega) ?_); intro g' cap w' HQ)
  go_ret
  refine ⟨_, rfl, ?_, HQ.out.2⟩
  have := HQ.out.1
  rw [Nat.zero_add, List.nil_append] at this
  simpa using this
/-- Two rows, one behind the other. -/
def catF (n : Nat) (F G : Nat → Th) (k : Nat) : Th := if k < n then F k else G (k - n)
theorem cat_flat (n m : Nat) (F G : Nat → Th) : (List.range (n + m)).flatMap (fun k => Te (catF n F G k)) = (List.range n).flatMap (fun k => Te (F k)) ++ (List.range m).flatMap (fun k => Te (G k)) := by
  rw [List.range_add, List.flatMap_append, List.flatMap_map]
  congr 1
  · have : ∀ l : List Nat, (∀ j ∈ l, j < n) → l.flatMap (fun k => Te (catF n F G k)) = l.flatMap (fun k => Te (F k)) := by
      intro l
      induction l with
      | nil => intro _; rfl
      | cons x l ih => intro hl; rw [List.flatMap_cons, List.flatMap_cons, ih (fun j hj => hl j (by simp [hj]))]; unfold catF; rw [if_pos (hl x (by simp))]
    exact this _ fun j hj => List.mem_range.1 hj
  · congr 1
    funext k
    unfold catF
    rw [if_neg (by omega), show n + k - n = k by omega]
theorem trow_of_own {w : World} {B g n cap : Nat} {F : Nat → Th} (h : w.ownsRow B 49 3 (.slice (some ⟨g, 0, none⟩) n cap) n ((List.range n).flatMap fun k => Te (F k))) : B ≤ g ∧ n ≤ cap ∧ Trow w g n F := by
  rcases h.2 with ⟨h1, h0⟩ | ⟨g', cap', cur, he, hb, hg, hc, hm, hs, ht⟩
  · simp at h1
  · simp at he
    obtain ⟨rfl, rfl⟩ := he
    refine ⟨hb, hc, cur.toList.drop (n * 3), ?_⟩
    rw [hg, ← ht, List.take_append_drop]

set_option maxRecDepth 2000000 in
set_option maxHeartbeats 3200000 in
theorem mergeP_any (g n c g2 m c2 : Nat) (F G : Nat → Th) (w : World) (h : Trow w g n F) (h2 : Trow w g2 m G) (h0 : 0 < n) (hm0 : 0 < m) (hn : n + m ≤ 1000) (hF : ∀ k, (F k).w ≤ 1000000000000000) (hG : ∀ k, (G k).w ≤ 1000000000000000) :
    Calls Try.prog 18 #[.slice (some ⟨g, 0, none⟩) n c, .slice (some ⟨g2, 0, none⟩) m c2] w fun e w' => ∃ g' cap τ, e = .returned (.slice (some ⟨g', 0, none⟩) (n + m) cap) ∧ Fr [] w w' ∧ w.heap.size ≤ g' ∧ n + m ≤ cap ∧ Trow w' g' (n + m) (fun k => catF n F G (τ k)) ∧ Shuf 0 (n + m) id τ ∧ SortedS (fun k => (catF n F G k).w) τ 0 (n + m) := by
  have HC := Lib.hid (clone_any g n c F w h h0 (by omega))
  have H2 := Lib.hid h2
  have HW := Lib.hid (show ∀ k, (catF n F G k).w ≤ 1000000000000000 from fun k => by unfold catF; split <;> simp [hF, hG])
  clear h h2 hF hG
  go_enter Try.func18, Try.ntmps18
  go_wp2_with fail
  refine HC.out.mono ?_
  rintro e w1 ⟨v, rfl, hown, hbel⟩
  have hsz := hbel.size
  have HT := Lib.hid (H2.out.to (l := []) (Fr.of_below hbel) (by simp))
  have HB := Lib.hid hbel
  have HO := Lib.hid hown
  clear hown hbel
  go_wp2_with (at_builtin; go_must (refine wpList_cat w.heap.size w w1 rfl (.tmp 7) (.tmp 8) rfl v n _ rfl HO HB hsz g2 m c2 G rfl HT hm0 hn ?_); intro g' cap w' HQ)
  obtain ⟨hge, hcg, hTg⟩ := trow_of_own (F := catF n F G) (by rw [cat_flat]; exact HQ.out.1)
  have HS := Lib.hid (sort_any 29 cmp_merge g' (n + m) cap (catF n F G) w' hTg hn HW.out)
  have HG := Lib.hid (And.intro hge hcg)
  clear hge hTg hcg
  refine HS.out.mono ?_
  rintro e w2 ⟨rfl, hf2, hT2⟩
  have H1 := Lib.hid (And.intro hT2 hf2)
  clear hT2 hf2
  go_wp2_with fail
  go_ret
  obtain ⟨⟨τ, t1, t2, t3⟩, hf1⟩ := H1.out
  exact ⟨g', cap, τ, rfl, Fr.of_below (hf1.out HQ.out.2 (by simpa using HG.out.1)), HG.out.1, HG.out.2, t1, t2, t3⟩
end Go.Proofs.Ytmajacfcfdljeaa
