/- merge: leaves and packages in one row. The codes of lengths: canon.Codes; rows of numbers and of codes that a call made. meet: each leaf of a package lengthens its symbol's code by one. -/
import Derived.Test.YtciejmlhdmjajaaKRg
import Derived.Test.YtciejmlhdmjajaaKRw
import Derived.Test.YtciejmlhdmjajaaKPa
import Derived.Test.YtciejmlhdmjajaaKHe
namespace Go.Proofs.Ytciejmlhdmjajaa
open Go.RowKit
set_option linter.unusedVariables false
set_option linter.unusedSimpArgs false

theorem Trow.news {w : World} {g n : Nat} {F : Nat → Th} (h : Trow w g n F) : ∀ j u, ((List.range n).flatMap fun k => Te (F k))[j]? = some u → w.cell? ((⟨g, 0, none⟩ : Addr).add j) = some u := fun j u hu => by
  have hl : ((List.range n).flatMap (fun i => Te (F i))).length = 3 * n := by rw [flatMap_three _ (fun i => te_len (F i)), List.length_range]
  have hj : j < 3 * n := by rw [← hl]; exact (List.getElem?_eq_some_iff.1 hu).1
  rw [add_none, Nat.zero_add]
  obtain ⟨rest, h⟩ := h
  rw [cell_of h]
  simp only [List.getElem?_toArray]
  rw [List.getElem?_append_left (by rw [hl]; exact hj)]
  exact hu
theorem flat_one (F : Nat → Th) (l : List Nat) : ∀ u ∈ l.flatMap (fun k => Te (F k)), u.oneCell' = true := by
  intro u hu
  obtain ⟨k, _, hk⟩ := List.mem_flatMap.1 hu
  simp [Te] at hk
  rcases hk with rfl | rfl | rfl <;> rfl
set_option maxHeartbeats 800000 in
/-- A row of things is put behind an own row. -/
theorem wpList_cat (B : Nat) (W w0 : World) {ops : Array Oper} {rest : List Oper} {o : Oper} {a : Act} {Q : Exit → Act → World → Prop} (hgd : o.guard = none) (s x : Operand)
    (ho : o.op = .call { callee := .builtin .append, args := #[s, x], argTypes := #[96, 96] })
    (v : Value) (n : Nat) (xs : List Value) (hs : a.eval s = v) (hown : Hid (w0.ownsRow B 102 3 v n xs)) (hB : Hid (Below B W w0)) (hBs : B ≤ w0.heap.size)
    (g m c : Nat) (F : Nat → Th) (hx : a.eval x = .slice (some ⟨g, 0, none⟩) m c) (hT : Hid (Trow w0 g m F)) (hm : 0 < m) (hnm : n + m ≤ 1000)
    (h : ∀ g' cap w', Hid (w'.ownsRow B 102 3 (.slice (some ⟨g', 0, none⟩) (n + m) cap) (n + m) (xs ++ (List.range m).flatMap fun k => Te (F k)) ∧ Below B W w') → wpList Try.prog ops Q rest (a.put o.dst (.slice (some ⟨g', 0, none⟩) (n + m) cap)) w') :
    wpList Try.prog ops Q (o :: rest) a w0 := by
  obtain ⟨ht, i, z, hi, hz, hsz, hby, hzs, hpos⟩ := elemT
  refine wpList_append_lies _ hgd s x _ ho B _ i z 3 24 ht hi hz hsz hby hzs hpos v n xs hs hown.out ⟨g, 0, none⟩ m c ((List.range m).flatMap fun k => Te (F k)) hx (by rw [flatMap_three _ (fun i => te_len (F i)), List.length_range, Nat.mul_comm]) hT.out.news (flat_one F _) hm (by unfold maxLen; omega) (by omega) hBs _ rfl ?_
  intro g' cap w' k1 k2 k3 k4
  exact h g' cap w' (Lib.hid ⟨k1, below_grown hB.out k2 hBs (fun g'' hg'' => (hown.out.lt g'' hg'').1)⟩)

set_option maxRecDepth 2000000 in
set_option maxHeartbeats 3200000 in
theorem clone_any (g n c : Nat) (F : Nat → Th) (w : World) (h : Trow w g n F) (h0 : 0 < n) (hn : n ≤ 1000) :
    Calls Try.prog 76 #[.slice (some ⟨g, 0, none⟩) n c] w fun e w' => ∃ v, e = .returned v ∧ w'.ownsRow w.heap.size 102 3 v n ((List.range n).flatMap fun k => Te (F k)) ∧ Below w.heap.size w w' := by
  have hA := new_of w (.cells #[] 102)
  have HT := Lib.hid (h.to (Fr.alloc [] w (.cells #[] 102)) (by simp))
  have HO : Hid ((w.alloc (.cells #[] 102)).ownsRow w.heap.size 102 3 (.slice (some ⟨w.heap.size, 0, none⟩) 0 0) 0 []) := Lib.hid ⟨rfl, .inr ⟨w.heap.size, 0, #[], rfl, Nat.le_refl _, hA, Nat.le_refl _, by unfold maxLen; omega, rfl, rfl⟩⟩
  have HB := Lib.hid (Fr.alloc [] w (.cells #[] 102)).below
  have hsz := (Fr.alloc [] w (.cells #[] 102)).size
  clear h hA
  have hnil : (binOp BinOp.eql 96 (.slice (some ⟨g, 0, none⟩) n c) (.slice none 0 0)).run Try.prog w = .ok (.bool false) w := by kernel_rfl
  go_enter Try.func76, Try.ntmps76
  go_wp2_with (at_builtin; go_must (refine wpList_cat w.heap.size w (w.alloc (.cells #[] 102)) rfl (.tmp 5) (.tmp 6) rfl _ 0 [] rfl HO HB hsz g n c F rfl HT h0 (by omega) ?_); intro g' cap w' HQ)
  go_ret
  refine ⟨_, rfl, ?_, HQ.out.2⟩
  have := HQ.out.1
  rw [Nat.zero_add, List.nil_append] at this
  simpa using this
/-- Two rows, one behind the other. -/
def catF (n : Nat) (F G : Nat → Th) (k : Nat) : Th := if k < n then F k else G (k - n)
theorem cat_flat (n m : Nat) (F G : Nat → Th) : (List.range (n + m)).flatMap (fun k => Te (catF n F G k)) = (List.range n).flatMap (fun k => Te (F k)) ++ (List.range m).flatMap (fun k => Te (G k)) := by
  rw [List.range_add, List.flatMap_append, List.flatMap_map]
  congr 1
  · have : ∀ l : List Nat, (∀ j ∈ l, j < n) → l.flatMap (fun k => Te (catF n F G k)) = l.flatMap (fun k => Te (F k)) := by
      intro l
      induction l with
      | nil => intro _; rfl
      | cons x l ih => intro hl; rw [List.flatMap_cons, List.flatMap_cons, ih (fun j hj => hl j (by simp [hj]))]; unfold catF; rw [if_pos (hl x (by simp))]
    exact this _ fun j hj => List.mem_range.1 hj
  · congr 1
    funext k
    unfold catF
    rw [if_neg (by omega), show n + k - n = k by omega]
theorem trow_of_own {w : World} {B g n cap : Nat} {F : Nat → Th} (h : w.ownsRow B 102 3 (.slice (some ⟨g, 0, none⟩) n cap) n ((List.range n).flatMap fun k => Te (F k))) : B ≤ g ∧ n ≤ cap ∧ Trow w g n F := by
  rcases h.2 with ⟨h1, h0⟩ | ⟨g', cap', cur, he, hb, hg, hc, hm, hs, ht⟩
  · simp at h1
  · simp at he
    obtain ⟨rfl, rfl⟩ := he
    refine ⟨hb, hc, cur.toList.drop (n * 3), ?_⟩
    rw [hg, ← ht, List.take_append_drop]

set_option maxRecDepth 2000000 in
set_option maxHeartbeats 3200000 in
theorem mergeP_any (g n c g2 m c2 : Nat) (F G : Nat → Th) (w : World) (h : Trow w g n F) (h2 : Trow w g2 m G) (h0 : 0 < n) (hm0 : 0 < m) (hn : n + m ≤ 1000) (hF : ∀ k, (F k).w ≤ 1000000000000000) (hG : ∀ k, (G k).w ≤ 1000000000000000) :
    Calls Try.prog 47 #[.slice (some ⟨g, 0, none⟩) n c, .slice (some ⟨g2, 0, none⟩) m c2] w fun e w' => ∃ g' cap τ, e = .returned (.slice (some ⟨g', 0, none⟩) (n + m) cap) ∧ Fr [] w w' ∧ w.heap.size ≤ g' ∧ n + m ≤ cap ∧ Trow w' g' (n + m) (fun k => catF n F G (τ k)) ∧ Shuf 0 (n + m) id τ ∧ SortedS (fun k => (catF n F G k).w) τ 0 (n + m) := by
  have HC := Lib.hid (clone_any g n c F w h h0 (by omega))
  have H2 := Lib.hid h2
  have HW := Lib.hid (show ∀ k, (catF n F G k).w ≤ 1000000000000000 from fun k => by unfold catF; split <;> simp [hF, hG])
  clear h h2 hF hG
  go_enter Try.func47, Try.ntmps47
  go_wp2_with fail
  refine HC.out.mono ?_
  rintro e w1 ⟨v, rfl, hown, hbel⟩
  have hsz := hbel.size
  have HT := Lib.hid (H2.out.to (l := []) (Fr.of_below hbel) (by simp))
  have HB := Lib.hid hbel
  have HO := Lib.hid hown
  clear hown hbel
  go_wp2_with (at_builtin; go_must (refine wpList_cat w.heap.size w w1 rfl (.tmp 7) (.tmp 8) rfl v n _ rfl HO HB hsz g2 m c2 G rfl HT hm0 hn ?_); intro g' cap w' HQ)
  obtain ⟨hge, hcg, hTg⟩ := trow_of_own (F := catF n F G) (by rw [cat_flat]; exact HQ.out.1)
  have HS := Lib.hid (sort_any 77 cmp_merge g' (n + m) cap (catF n F G) w' hTg hn HW.out)
  have HG := Lib.hid (And.intro hge hcg)
  clear hge hTg hcg
  refine HS.out.mono ?_
  rintro e w2 ⟨rfl, hf2, hT2⟩
  have H1 := Lib.hid (And.intro hT2 hf2)
  clear hT2 hf2
  go_wp2_with fail
  go_ret
  obtain ⟨⟨τ, t1, t2, t3⟩, hf1⟩ := H1.out
  exact ⟨g', cap, τ, rfl, Fr.of_below (hf1.out HQ.out.2 (by simpa using HG.out.1)), HG.out.1, HG.out.2, t1, t2, t3⟩
end Go.Proofs.Ytciejmlhdmjajaa
namespace Go.Proofs.Ytciejmlhdmjajaa
open Go.RowKit
set_option linter.unusedVariables false
set_option linter.unusedSimpArgs false

/-- A row of n numbers of a kind, in a block of their own. -/
def Nrow (w : World) (g : Nat) (T : TypeId) (kd : IntKind) (n : Nat) (F : Nat → Nat) : Prop := w.heap[g]? = some (.cells ((List.range n).map fun j => Value.int kd (F j : Int)).toArray T (0, 0))
theorem Nrow.cell {w : World} {g n : Nat} {T : TypeId} {kd : IntKind} {F : Nat → Nat} (h : Nrow w g T kd n F) (k : Nat) (hk : k < n) : w.cell? ⟨g, k, none⟩ = some (.int kd (F k : Int)) := by
  rw [cell_of h]; simp [hk]
theorem Nrow.set_ {w : World} {g n : Nat} {T : TypeId} {kd : IntKind} {F G : Nat → Nat} (h : Nrow w g T kd n F) (k x : Nat) (hG : ∀ j, j < n → G j = if j = k then x else F j) : Nrow (w.setCell ⟨g, k, none⟩ (.int kd (x : Int))) g T kd n G := by
  unfold Nrow
  rw [set_of h k]
  congr 2
  apply Array.ext'
  simp only [List.setIfInBounds_toArray]
  apply List.ext_getElem
  · simp
  · intro j h1 h2
    have hj : j < n := by simpa using h2
    rw [List.getElem_set]
    simp only [List.getElem_map, List.getElem_range]
    rw [hG j hj]
    by_cases hjk : k = j
    · subst hjk; simp
    · rw [if_neg hjk, if_neg (fun e => hjk e.symm)]
theorem Nrow.to {w w' : World} {g n : Nat} {T : TypeId} {kd : IntKind} {F : Nat → Nat} {l : List Nat} (h : Nrow w g T kd n F) (k : Fr l w w') (hb : g ∉ l) : Nrow w' g T kd n F := k.blk h hb
theorem Nrow.congr {w : World} {g n : Nat} {T : TypeId} {kd : IntKind} {F G : Nat → Nat} (h : Nrow w g T kd n F) (hG : ∀ j, j < n → G j = F j) : Nrow w g T kd n G := by
  unfold Nrow at h ⊢
  rw [h]
  congr 3
  apply List.map_congr_left
  intro j hj
  rw [hG j (List.mem_range.1 hj)]

/-- A code's cells. -/
def Cd (p : Nat × Nat) : List Value := [.int .u32 (p.1 : Int), .int .u8 (p.2 : Int)]
theorem cd_len (p : Nat × Nat) : (Cd p).length = 2 := rfl
/-- A row of pairs, as cells, in a block of its own. -/
def Prow (enc : Nat × Nat → List Value) (T : TypeId) (w : World) (g n : Nat) (F : Nat → Nat × Nat) : Prop := w.heap[g]? = some (.cells ((List.range n).flatMap fun j => enc (F j)).toArray T (0, 0))
theorem two_get {enc : Nat × Nat → List Value} (he : ∀ p, (enc p).length = 2) (F : Nat → Nat × Nat) (n k j : Nat) (hk : k < n) (hj : j < 2) : ((List.range n).flatMap fun i => enc (F i))[2 * k + j]? = (enc (F k))[j]? := by
  have e : (List.range n).flatMap (fun i => enc (F i)) = ((List.range n).map F).flatMap enc := by rw [List.flatMap_map]
  obtain ⟨u, hu⟩ : ∃ u, (enc (F k))[j]? = some u := ⟨(enc (F k))[j]'(by rw [he]; exact hj), List.getElem?_eq_getElem _⟩
  rw [e, hu]
  have hgen : ∀ (l : List (Nat × Nat)) (k : Nat) (x : Nat × Nat), l[k]? = some x → (enc x)[j]? = some u → (l.flatMap enc)[2 * k + j]? = some u := by
    intro l
    induction l with
    | nil => intro k x h; simp at h
    | cons y l ih =>
      intro k x h hx
      cases k with
      | zero => simp at h; subst h; rw [List.flatMap_cons, Nat.mul_zero, Nat.zero_add, List.getElem?_append_left (by rw [he]; exact hj)]; exact hx
      | succ k => rw [List.flatMap_cons, List.getElem?_append_right (by rw [he]; omega), he, show 2 * (k + 1) + j - 2 = 2 * k + j by omega]; exact ih k x (by simpa using h) hx
  exact hgen _ k (F k) (by simp [hk]) hu
theorem Prow.cell {enc : Nat × Nat → List Value} {T : TypeId} {w : World} {g n : Nat} {F : Nat → Nat × Nat} (h : Prow enc T w g n F) (he : ∀ p, (enc p).length = 2) (k j : Nat) (hk : k < n) (hj : j < 2) : w.cell? ⟨g, k * 2 + j, none⟩ = (enc (F k))[j]? := by
  rw [cell_of h, Nat.mul_comm k 2]
  simp only [List.getElem?_toArray]
  exact two_get he F n k j hk hj
theorem Prow.to {enc : Nat × Nat → List Value} {T : TypeId} {w w' : World} {g n : Nat} {F : Nat → Nat × Nat} {l : List Nat} (h : Prow enc T w g n F) (k : Fr l w w') (hb : g ∉ l) : Prow enc T w' g n F := k.blk h hb
theorem flatMap_two {α : Type} (f : α → List Value) (h : ∀ x, (f x).length = 2) (l : List α) : (l.flatMap f).length = 2 * l.length := by
  induction l with
  | nil => rfl
  | cons x l ih => rw [List.flatMap_cons, List.length_append, h, ih, List.length_cons]; omega
theorem flatMap_alike {α : Type} (f g : α → List Value) (l : List α) (h : ∀ x ∈ l, f x = g x) : l.flatMap f = l.flatMap g := by
  induction l with
  | nil => rfl
  | cons x l ih => rw [List.flatMap_cons, List.flatMap_cons, h x (by simp), ih (fun y hy => h y (by simp [hy]))]
theorem two_set {enc : Nat × Nat → List Value} (he : ∀ p, (enc p).length = 2) (F G : Nat → Nat × Nat) (n k : Nat) (hk : k < n) (u v : Value) (hG : ∀ j, j < n → j ≠ k → G j = F j) (hu : enc (G k) = [u, v]) :
    (((List.range n).flatMap fun i => enc (F i)).set (2 * k) u).set (2 * k + 1) v = (List.range n).flatMap fun i => enc (G i) := by
  have hlen : ∀ F : Nat → Nat × Nat, ((List.range n).flatMap fun i => enc (F i)).length = 2 * n := fun F => by
    rw [flatMap_two _ (fun i => he (F i)), List.length_range]
  apply List.ext_getElem?
  intro i
  by_cases hi : i < 2 * n
  · have e : i = 2 * (i / 2) + i % 2 := by omega
    have hq : i / 2 < n := by omega
    have hr : i % 2 < 2 := by omega
    generalize i / 2 = q at *
    generalize i % 2 = r at *
    subst e
    rw [two_get he G n q r hq hr]
    by_cases hqk : q = k
    · subst hqk
      rw [hu]
      rcases (show r = 0 ∨ r = 1 by omega) with rfl | rfl
      · rw [List.getElem?_set_ne (by omega), Nat.add_zero, List.getElem?_set_self (by rw [hlen]; omega)]; rfl
      · rw [List.getElem?_set_self (by rw [List.length_set, hlen]; omega)]; rfl
    · rw [List.getElem?_set_ne (by omega), List.getElem?_set_ne (by omega), two_get he F n q r hq hr, hG q hq hqk]
  · rw [List.getElem?_eq_none (by rw [List.length_set, List.length_set, hlen]; omega), List.getElem?_eq_none (by rw [hlen]; omega)]
theorem Prow.set_ {enc : Nat × Nat → List Value} {T : TypeId} {w : World} {g n : Nat} {F G : Nat → Nat × Nat} (h : Prow enc T w g n F) (he : ∀ p, (enc p).length = 2) (k : Nat) (hk : k < n) (u v : Value) (hG : ∀ j, j < n → j ≠ k → G j = F j) (hu : enc (G k) = [u, v]) :
    Prow enc T ((w.setCell ⟨g, k * 2, none⟩ u).setCell ⟨g, k * 2 + 1, none⟩ v) g n G := by
  unfold Prow
  rw [Nat.mul_comm k 2]
  rw [set_of (set_of h (2 * k) u) (2 * k + 1) v]
  congr 2
  apply Array.ext'
  simp only [List.setIfInBounds_toArray]
  exact two_set he F G n k hk u v hG hu
theorem set_same_ {L : List Value} {i j : Nat} {u v : Value} (h : L[j]? = some v) (hij : i ≠ j) : (L.set i u).set j v = L.set i u := by
  apply List.ext_getElem?
  intro n
  rw [List.getElem?_set]
  by_cases hn : j = n
  · subst hn
    have hl : j < (L.set i u).length := by rw [List.length_set]; exact (List.getElem?_eq_some_iff.1 h).1
    rw [if_pos rfl, if_pos hl, List.getElem?_set_ne hij, h]
  · rw [if_neg hn]
/-- The first of a pair's cells is written. -/
theorem Prow.set0 {enc : Nat × Nat → List Value} {T : TypeId} {w : World} {g n : Nat} {F G : Nat → Nat × Nat} (h : Prow enc T w g n F) (he : ∀ p, (enc p).length = 2) (k : Nat) (hk : k < n) (u v : Value) (hG : ∀ j, j < n → j ≠ k → G j = F j) (hu : enc (G k) = [u, v]) (hv : (enc (F k))[1]? = some v) :
    Prow enc T (w.setCell ⟨g, k * 2, none⟩ u) g n G := by
  unfold Prow
  rw [Nat.mul_comm k 2, set_of h (2 * k) u]
  congr 2
  apply Array.ext'
  simp only [List.setIfInBounds_toArray]
  rw [← two_set he F G n k hk u v hG hu, set_same_ (by rw [two_get he F n k 1 hk (by omega), hv]) (by omega)]
theorem Prow.congr {enc : Nat × Nat → List Value} {T : TypeId} {w : World} {g n : Nat} {F G : Nat → Nat × Nat} (h : Prow enc T w g n F) (hG : ∀ j, j < n → G j = F j) : Prow enc T w g n G := by
  unfold Prow at h ⊢
  rw [h]
  congr 3
  exact flatMap_alike _ _ _ fun j hj => by rw [hG j (List.mem_range.1 hj)]

theorem cdinfo : ∃ i0 : TypeInfo, Try.prog.info? 129 = some i0 ∧ i0.zero = some (.agg #[.int .u32 0, .int .u8 0]) ∧ i0.size = 2 ∧ i0.bytes = 8 :=
  info_parts (show (Try.prog.info? 129).map (fun i => (i.zero, i.size, i.bytes)) = some (some (.agg #[.int .u32 0, .int .u8 0]), 2, 8) by kernel_rfl)
theorem made_two (a b : Value) (n : Nat) : madeCells #[a, b] (n * 2) = ((List.range n).flatMap fun _ => [a, b]).toArray := by
  apply Array.ext
  · rw [size_madeCells, List.size_toArray, flatMap_two _ (fun _ => rfl), List.length_range]; omega
  · intro i h1 h2
    rw [size_madeCells] at h1
    have e : i = 2 * (i / 2) + i % 2 := by omega
    have hq : i / 2 < n := by omega
    have hr : i % 2 < 2 := by omega
    have h3 := two_get (enc := fun _ => [a, b]) (fun _ => rfl) (fun _ => (0, 0)) n (i / 2) (i % 2) hq hr
    rw [← e] at h3
    have h4 : ((List.range n).flatMap fun _ => [a, b]).toArray[i]? = [a, b][i % 2]? := by rw [List.getElem?_toArray]; exact h3
    have h5 : (madeCells #[a, b] (n * 2))[i]? = [a, b][i % 2]? := by
      rw [Array.getElem?_eq_getElem (by rw [size_madeCells]; exact h1)]
      simp only [madeCells, Array.getElem_map, Array.getElem_range]
      rcases (show i % 2 = 0 ∨ i % 2 = 1 by omega) with h | h
      · simp [h]
      · simp [h]
    have h6 := h5.trans h4.symm
    rw [Array.getElem?_eq_getElem (by rw [size_madeCells]; exact h1), Array.getElem?_eq_getElem h2] at h6
    exact Option.some.inj h6
theorem run_make_codes (n : Nat) (hn : n ≤ 1000000000) (w : World) : (Instr.makeSlice 124 (.int .i64 (n : Int)) (.int .i64 (n : Int))).run Try.prog w =
    .ok (.slice (some ⟨w.heap.size, 0, none⟩) n n) (w.alloc (.cells ((List.range n).flatMap fun j => Cd ((fun _ => (0, 0)) j)).toArray 129)) := by
  obtain ⟨i0, hi, hz0, hz1, hz2⟩ := cdinfo
  have h := run_make (P := Try.prog) w 124 129 i0 _ Try.underlying124 hi hz0 .i64 .i64 n n (by omega) (Int.le_refl _) (by rw [hz2]; omega) (by omega)
  rw [h, hz1, Int.toNat_natCast]
  exact congrArg (fun x => Result.ok (Value.slice (some ⟨w.heap.size, 0, none⟩) n n) (w.alloc (.cells x 129))) (made_two (.int .u32 0) (.int .u8 0) n)
/-- A symbol's code, nothing if there is none. -/
def codeP (l : List Nat) (s : Nat) : Nat × Nat := if l.getD s 0 = 0 then (0, 0) else (codeN l s, l.getD s 0)
end Go.Proofs.Ytciejmlhdmjajaa
namespace Go.Proofs.Ytciejmlhdmjajaa
open Go.RowKit
set_option linter.unusedVariables false
set_option linter.unusedSimpArgs false

/-- What a thing is made of. -/
inductive PT where
  | leaf (s : Nat)
  | node (a b : PT)
def occ : PT → Nat → Nat
  | .leaf s, k => if k = s then 1 else 0
  | .node a b, k => occ a k + occ b k
/-- A thing in memory, whose packages lie in blocks other than gl. -/
def Tree (w : World) (gl : Nat) : PT → Th → Prop
  | .leaf s, t => t.two = none ∧ t.s = s
  | .node a b, t => ∃ (g : Nat) (x y : Th), t.two = some ⟨g, 0, none⟩ ∧ g ≠ gl ∧ w.heap[g]? = some (.cells (Te x ++ Te y).toArray 103 (0, 0)) ∧ Tree w gl a x ∧ Tree w gl b y
theorem Tree.to {w w' : World} {gl : Nat} (f : Fr [gl] w w') : ∀ (p : PT) (t : Th), Tree w gl p t → Tree w' gl p t
  | .leaf s, t, h => h
  | .node a b, t, h => by
    obtain ⟨g, x, y, h1, h2, h3, h4, h5⟩ := h
    exact ⟨g, x, y, h1, h2, f.blk h3 (by simpa using h2), Tree.to f a x h4, Tree.to f b y h5⟩
/-- Where the boxes of packages stay, things are what they were. -/
theorem Tree.grow {w w' : World} {gl : Nat} (f : ∀ (g : Nat) (cs : Array Value), w.heap[g]? = some (.cells cs 103 (0, 0)) → w'.heap[g]? = some (.cells cs 103 (0, 0))) : ∀ (p : PT) (t : Th), Tree w gl p t → Tree w' gl p t
  | .leaf s, t, h => h
  | .node a b, t, h => by
    obtain ⟨g, x, y, h1, h2, h3, h4, h5⟩ := h
    exact ⟨g, x, y, h1, h2, f g _ h3, Tree.grow f a x h4, Tree.grow f b y h5⟩
theorem boxes_grown {w w' : World} {B : Nat} {v : Value} {n : Nat} {xs : List Value} (h : w.ownsRow B 102 3 v n xs) (hg : w.grownBy w' v.ownBlock) : ∀ (g : Nat) (cs : Array Value), w.heap[g]? = some (.cells cs 103 (0, 0)) → w'.heap[g]? = some (.cells cs 103 (0, 0)) := by
  intro g cs hc
  rw [hg.block g (lt_of hc) ?_, hc]
  intro he
  rcases h.2 with ⟨rfl, _⟩ | ⟨g', cap, cur, rfl, hb, hh, _⟩
  · simp [Value.ownBlock] at he
  · simp [Value.ownBlock] at he
    subst he
    rw [hc] at hh
    simp at hh
/-- The variables that meet uses: the lengths' slice, itself. -/
structure Meets (w : World) (b1 b2 gl nl cl : Nat) : Prop where
  h1 : w.heap[b1]? = some (.cells #[.slice (some ⟨gl, 0, none⟩) nl cl] 25 (0, 0))
  h2 : w.heap[b2]? = some (.cells #[.func (.func 48) #[] #[.pointer (some ⟨b1, 0, none⟩), .pointer (some ⟨b2, 0, none⟩)]] 105 (0, 0))
  n1 : b1 ≠ gl
  n2 : b2 ≠ gl
theorem Meets.to {w w' : World} {b1 b2 gl nl cl : Nat} (h : Meets w b1 b2 gl nl cl) (f : Fr [gl] w w') : Meets w' b1 b2 gl nl cl := ⟨f.blk h.h1 (by simpa using h.n1), f.blk h.h2 (by simpa using h.n2), h.n1, h.n2⟩

set_option maxRecDepth 2000000 in
set_option maxHeartbeats 3200000 in
theorem meet_leaf (b1 b2 gl nl cl s tw : Nat) (F : Nat → Nat) (w : World) (hM : Meets w b1 b2 gl nl cl) (hF : Nrow w gl 5 .u8 nl F) (hs : s < nl) (hn : nl ≤ 1000) (hb : F s ≤ 254) :
    Calls Try.prog 48 #[tv ⟨tw, s, none⟩, .pointer (some ⟨b1, 0, none⟩), .pointer (some ⟨b2, 0, none⟩)] w fun e w' => e = .returned (.tuple #[]) ∧ Nrow w' gl 5 .u8 nl (fun k => F k + if k = s then 1 else 0) ∧ Fr [gl] w w' := by
  have hA := Fr.alloc [] w (.cells (Te ⟨tw, s, none⟩).toArray 102)
  have hM1 := hM.to hA.nil
  have hF1 := hF.to hA (by simp)
  have c1 := cell_of hM1.h1 0
  have d0 := hF1.cell s hs
  have fz := free_of hF1 s
  have hset := hF1.set_ (G := fun k => F k + if k = s then 1 else 0) s (F s + 1) (fun j _ => by by_cases h : j = s <;> simp [h])
  obtain ⟨x, hx⟩ : ∃ x, F s = x := ⟨_, rfl⟩
  rw [hx] at d0 hset hb
  have hsn : (s : Int) < (nl : Int) := by omega
  have hni : (nl : Int) ≤ 1000 := by omega
  obtain ⟨y, hy⟩ : ∃ y, x + 1 = y := ⟨_, rfl⟩
  rw [hy] at hset
  have ex : (x : Int) + 1 = (y : Int) := by omega
  have hxb : (x : Int) ≤ 254 := by omega
  simp at c1
  simp only [Te] at c1 d0 fz hset hA
  have HS := Lib.hid (And.intro hset hA)
  unfold tv
  clear hM hF hM1 hF1 hset hx hA hs hn hb hy
  go_enter Try.func48, Try.ntmps48
  go_wp2_with fail
  ((try simp only [Exit.inBlock, Exit.then]); refine bodyPost_ret (results_none rfl _ _ _) rfl ?_)
  exact ⟨rfl, HS.out.1, HS.out.2.nil.trans (Fr.setCell _ _ _ _)⟩
set_option maxRecDepth 2000000 in
set_option maxHeartbeats 6400000 in
theorem meet_any (b1 b2 gl nl cl : Nat) (hn : nl ≤ 1000) (p : PT) : ∀ (t : Th) (F : Nat → Nat) (w : World) (hT : Tree w gl p t) (hM : Meets w b1 b2 gl nl cl) (hF : Nrow w gl 5 .u8 nl F) (hs : ∀ s, 0 < occ p s → s < nl) (hb : ∀ s, F s + occ p s ≤ 255),
    Calls Try.prog 48 #[tv t, .pointer (some ⟨b1, 0, none⟩), .pointer (some ⟨b2, 0, none⟩)] w fun e w' => e = .returned (.tuple #[]) ∧ Nrow w' gl 5 .u8 nl (fun k => F k + occ p k) ∧ Fr [gl] w w' := by
  induction p with
  | leaf s =>
    rintro ⟨tw, ts, two⟩ F w ⟨h1, h2⟩ hM hF hs hb
    simp only at h1 h2
    subst h1
    subst h2
    exact meet_leaf b1 b2 gl nl cl ts tw F w hM hF (hs ts (by simp [occ])) hn (by have := hb ts; simp [occ] at this; omega)
  | node a b iha ihb =>
    rintro ⟨tw, ts, two⟩ F w ⟨g, x, y, h1, h2, h3, h4, h5⟩ hM hF hs hb
    simp only at h1
    subst h1
    have hA := Fr.alloc [] w (.cells (Te ⟨tw, ts, some ⟨g, 0, none⟩⟩).toArray 102)
    have hM1 := hM.to hA.nil
    have hF1 := hF.to hA (by simp)
    have h3' := hA.blk h3 (by simp)
    have hgl : gl ≠ w.heap.size := by have := lt_of hF; omega
    have hbox := new_of w (.cells (Te ⟨tw, ts, some ⟨g, 0, none⟩⟩).toArray 102)
    have c2 := cell_of hM1.h2 0
    have g0 := cell_of h3' 0
    have g1 := cell_of h3' 1
    have g2 := cell_of h3' 2
    have hglt := lt_of h3'
    have HA1 := Lib.hid (fun W (f : Fr [] (w.alloc (.cells (Te ⟨tw, ts, some ⟨g, 0, none⟩⟩).toArray 102)) W) => iha x F W (Tree.to f.nil a x (Tree.to hA.nil a x h4)) (hM1.to f.nil) (hF1.to f (by simp)) (fun s h => hs s (by simp [occ]; omega)) (fun s => by have := hb s; simp [occ] at this; omega))
    have HS := Lib.hid (And.intro h2 (And.intro h3' (And.intro h5 (And.intro hM1 (And.intro hs (And.intro hb (And.intro hA (And.intro hgl hbox))))))))
    simp [Te] at c2 g0 g1 g2 hglt
    simp only [Te] at HA1 HS
    unfold tv at *
    clear hM hF hM1 hF1 hs hb hA hgl hbox h2 h3 h3' h4 h5 iha
    go_enter Try.func48, Try.ntmps48
    go_wp2_with fail
    refine wp_region_quiet_tail 6 (by kernel_rfl) (by kernel_rfl) ?_
    simp only [List.take_succ_cons, List.take_zero, List.drop_succ_cons, List.drop_zero]
    repeat go_big_quiet_step (fail)
    refine wpQuiet_nil ?_
    go_wp2_with fail
    refine (HA1.out _ (Fr.drew (Fr.refl [] _))).mono ?_
    rintro e w1 ⟨rfl, hF2, f2⟩
    obtain ⟨h2, h3', h5, hM1, hs, hb, hA, hgl, hbox⟩ := HS.out
    have f3 := (Fr.drew (Fr.refl [gl] (w.alloc (.cells #[.int .i64 (tw : Int), .int .i64 (ts : Int), .pointer (some ⟨g, 0, none⟩)] 102)))).trans f2
    have hbox1 := f3.blk hbox (by simpa using Ne.symm hgl)
    have h31 := f3.blk h3' (by simpa using h2)
    have hM2 := hM1.to f3
    have hT2 := Tree.to f3 b y (Tree.to hA.nil b y h5)
    have e0 := cell_of hbox1 2
    have e2 := cell_of hM2.h2 0
    have k0 := cell_of h31 3
    have k1 := cell_of h31 4
    have k2 := cell_of h31 5
    have hglt1 := lt_of h31
    have HA2 := Lib.hid (fun W (f : Fr [] w1 W) => ihb y (fun k => F k + occ a k) W (Tree.to f.nil b y hT2) (hM2.to f.nil) (hF2.to f (by simp)) (fun s h => hs s (by simp [occ]; omega)) (fun s => by have := hb s; simp [occ] at this; omega))
    have H2 := Lib.hid (hA.nil.trans f3)
    simp at e0 e2 k0 k1 k2
    unfold tv at HA2
    clear h2 h3' h5 hM1 hs hb hA hgl hbox f2 f3 hbox1 h31 hM2 hT2 hF2 ihb c2 g0 g1 g2
    go_wp2_with fail
    refine wp_region_quiet_tail 6 (by kernel_rfl) (by kernel_rfl) ?_
    simp only [List.take_succ_cons, List.take_zero, List.drop_succ_cons, List.drop_zero]
    repeat go_big_quiet_step (fail)
    refine wpQuiet_nil ?_
    go_wp2_with fail
    refine (HA2.out _ (Fr.drew (Fr.refl [] _))).mono ?_
    rintro e w3 ⟨rfl, hF3, f4⟩
    have H3 := Lib.hid (And.intro hF3 (H2.out.trans ((Fr.drew (Fr.refl [gl] w1)).trans f4)))
    clear hF3 f4
    go_wp2_with fail
    go_end0
    refine ⟨rfl, H3.out.1.congr fun k _ => ?_, H3.out.2⟩
    simp only [occ]; omega
end Go.Proofs.Ytciejmlhdmjajaa

