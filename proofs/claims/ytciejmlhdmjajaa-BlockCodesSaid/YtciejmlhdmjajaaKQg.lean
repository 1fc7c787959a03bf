/- platenref06's next: its walk. platenref06's Lens: where there is none, and of few symbols. -/
import Derived.Test.YtciejmlhdmjajaaKPd
import Derived.Test.YtciejmlhdmjajaaKQe
namespace Go.Proofs.Ytciejmlhdmjajaa
open Go.RowKit
set_option linter.unusedVariables false
set_option linter.unusedSimpArgs false

/-- Four cells: two things' weights and rows. -/
def Four (g p q xw gx yw gy n : Nat) (w : World) : Prop :=
  w.cell? ⟨g, p * 2, none⟩ = some (.int .i64 (xw : Int)) ∧ w.cell? ⟨g, p * 2 + 1, none⟩ = some (.slice (some ⟨gx, 0, none⟩) n n) ∧ w.cell? ⟨g, q * 2, none⟩ = some (.int .i64 (yw : Int)) ∧ w.cell? ⟨g, q * 2 + 1, none⟩ = some (.slice (some ⟨gy, 0, none⟩) n n)
theorem Four.to {g p q xw gx yw gy n : Nat} {w w' : World} (h : Hid (g < w.heap.size ∧ Four g p q xw gx yw gy n w)) (b : Below w.heap.size w w') : Four g p q xw gx yw gy n w' := by
  obtain ⟨h0, h1, h2, h3, h4⟩ := h.out
  unfold Four
  rw [b.cell (p := ⟨g, p * 2, none⟩) h0, b.cell (p := ⟨g, p * 2 + 1, none⟩) h0, b.cell (p := ⟨g, q * 2, none⟩) h0, b.cell (p := ⟨g, q * 2 + 1, none⟩) h0]
  exact ⟨h1, h2, h3, h4⟩
/-- What holds at the head of a round of the first loop: m packages are made. -/
def NextA (w : World) (n : Nat) (sy : Nat → Nat) (R : List (Nat × PT)) (v5 v7 : Value) (wr : World) : Prop :=
  ∃ (m : Nat) (u5 : Value), u5 = v5 ∧ v7 = .int .i64 ((2 * m : Nat) : Int) ∧ 2 * m ≤ R.length ∧ Vrow wr w.heap.size v5 n sy ((prs PT.node R).take m) ∧ Below w.heap.size w wr
/-- What holds at the head of a round of the second loop: i leaves and k packages are taken. -/
def NextB (w wo : World) (n : Nat) (sy : Nat → Nat) (LL P : List (Nat × PT)) (g5 : Nat) (v6 v8 v9 : Value) (wr : World) : Prop :=
  ∃ (i k : Nat) (u6 : Value) (O : List (Nat × PT)), u6 = v6 ∧ v8 = .int .i64 (i : Int) ∧ v9 = .int .i64 (k : Int) ∧ i ≤ LL.length ∧ k ≤ P.length ∧ O.length = i + k ∧ mrg LL P = O ++ mrg (LL.drop i) (P.drop k) ∧ Vrow wr w.heap.size v6 n sy O ∧ v6.ownBlock ≠ some g5 ∧ (∀ b, v6.ownBlock = some b → wo.heap.size ≤ b) ∧ Fr [] wo wr
theorem mrg_fst {LL P : List (Nat × PT)} {i k : Nat} {x : Nat × PT} (hx : LL[i]? = some x) (h : P.length ≤ k ∨ ∃ y, P[k]? = some y ∧ x.1 ≤ y.1) : mrg (LL.drop i) (P.drop k) = x :: mrg (LL.drop (i + 1)) (P.drop k) := by
  obtain ⟨hi, he⟩ := List.getElem?_eq_some_iff.1 hx
  rw [List.drop_eq_getElem_cons hi, he]
  rcases h with h | ⟨y, hy, hxy⟩
  · rw [List.drop_eq_nil_of_le h, mrg_right, mrg_right]
  · obtain ⟨hk, hk2⟩ := List.getElem?_eq_some_iff.1 hy
    rw [List.drop_eq_getElem_cons hk, hk2, mrg_cons, if_pos hxy]
theorem mrg_snd {LL P : List (Nat × PT)} {i k : Nat} {y : Nat × PT} (hy : P[k]? = some y) (h : LL.length ≤ i ∨ ∃ x, LL[i]? = some x ∧ ¬ x.1 ≤ y.1) : mrg (LL.drop i) (P.drop k) = y :: mrg (LL.drop i) (P.drop (k + 1)) := by
  obtain ⟨hk, he⟩ := List.getElem?_eq_some_iff.1 hy
  rw [List.drop_eq_getElem_cons hk, he]
  rcases h with h | ⟨x, hx, hxy⟩
  · rw [List.drop_eq_nil_of_le h, mrg_nil, mrg_nil]
  · obtain ⟨hi, hi2⟩ := List.getElem?_eq_some_iff.1 hx
    rw [List.drop_eq_getElem_cons hi, hi2, mrg_cons, if_neg hxy]
theorem next_push {w wo wr w6 : World} {n L g5 g6 c6 xw gx : Nat} {sy G6 : Nat → Nat} {O : List (Nat × PT)} {xp : PT} {u6 : Value} {cs : Array Value} (hO : O.length = L) (hcs : cs.toList = Tv xw gx n)
    (HQ : Pushed w.heap.size w (wr.alloc (.cells cs 111)) w6 111 2 u6 g6 c6 (L + 1) (rowCells n O G6 ++ cs.toList))
    (h1 : wr.ownsRow w.heap.size 111 2 u6 L (rowCells n O G6)) (h2 : ∀ k, k < L → Nrow wr (G6 k) 5 .u8 n (vecP sy (O.getD k d0).2)) (hv : Nrow wr gx 5 .u8 n (vecP sy xp))
    (hne : u6.ownBlock ≠ some g5) (hge : ∀ b, u6.ownBlock = some b → wo.heap.size ≤ b) (hf : Fr [] wo wr) (hg5 : g5 < wr.heap.size) :
    Vrow w6 w.heap.size (.slice (some ⟨g6, 0, none⟩) (L + 1) c6) n sy (O ++ [(xw, xp)]) ∧ (Value.slice (some ⟨g6, 0, none⟩) (L + 1) c6).ownBlock ≠ some g5 ∧ (∀ b, (Value.slice (some ⟨g6, 0, none⟩) (L + 1) c6).ownBlock = some b → wo.heap.size ≤ b) ∧ Fr [] wo w6 := by
  subst hO
  have fA := Fr.alloc [] wr (.cells cs 111)
  have h1A := ownsRow_to h1 fA (by simp)
  have szA : (wr.alloc (.cells cs 111)).heap.size = wr.heap.size + 1 := Array.size_push _
  refine ⟨?_, ?_, ?_, ?_⟩
  · refine Vrow.snoc (g := gx) (G := G6) ?_ (fun k hk => vecs_grown h1A HQ.grown ((h2 k hk).to fA (by simp))) (vecs_grown h1A HQ.grown (hv.to fA (by simp)))
    have := HQ.own
    rw [hcs] at this
    exact this
  · simp only [Value.ownBlock]
    intro h
    have h' : g6 = g5 := by simpa using h
    subst h'
    rcases HQ.or_ with h3 | h3
    · exact hne h3
    · omega
  · intro b hb
    simp [Value.ownBlock] at hb
    subst hb
    rcases HQ.or_ with h3 | h3
    · exact hge _ h3
    · have := hf.size; omega
  · exact Fr.of_below (below_grown (hf.trans fA).below HQ.grown (by have := hf.size; omega) hge)
theorem getD_of_some {R : List (Nat × PT)} {k : Nat} {x : Nat × PT} (h : R[k]? = some x) : R.getD k d0 = x := by rw [List.getD_eq_getElem?_getD, h, Option.getD_some]
set_option maxRecDepth 2000000 in
set_option maxHeartbeats 6400000 in
theorem next_any (n gl cl gr cr : Nat) (sy : Nat → Nat) (LL R : List (Nat × PT)) (w : World) (B1 B2 : Nat) (hLL : Vrow w B1 (.slice (some ⟨gl, 0, none⟩) LL.length cl) n sy LL) (hR : Vrow w B2 (.slice (some ⟨gr, 0, none⟩) R.length cr) n sy R)
    (hn : n ≤ 320) (h2 : 2 ≤ R.length) (hRl : R.length ≤ 640) (hLl : LL.length ≤ 320) (hRw : ∀ x ∈ R, x.1 ≤ 40000000000000) (hLw : ∀ x ∈ LL, x.1 ≤ 40000000000000) :
    Calls Try.prog 56 #[.slice (some ⟨gl, 0, none⟩) LL.length cl, .slice (some ⟨gr, 0, none⟩) R.length cr] w fun e w' => ∃ v, e = .returned v ∧ Vrow w' w.heap.size v n sy (mrg LL (prs PT.node R)) ∧ Below w.heap.size w w' := by
  obtain ⟨r, hr⟩ : ∃ r, R.length = r := ⟨_, rfl⟩
  obtain ⟨nl, hnl⟩ : ∃ nl, LL.length = nl := ⟨_, rfl⟩
  have HX := Lib.hid (And.intro hLL (And.intro hR (And.intro hr (And.intro hnl (And.intro hRw (And.intro hLw hn))))))
  rw [hr] at h2 hRl ⊢
  rw [hnl] at hLl ⊢
  have h1 : (r : Int) ≤ 640 := by omega
  have h3 : (nl : Int) ≤ 320 := by omega
  clear hLL hR hr hnl hRw hLw hn
  go_enter Try.func56, Try.ntmps56
  go_wp2_with fail
  go_loopw [5, 7] (fun v5 v7 wr => NextA w n sy R v5 v7 wr) (fun _ v7 _ => r - (intOf v7).toNat)
  case atStart => exact ⟨0, _, rfl, rfl, Nat.zero_le _, by simpa using Vrow.nil _ _ _ _, Below.refl _ _⟩
  case round =>
    obtain ⟨m, u5, rfl, rfl, hm, hV, hbel⟩ := hrel
    obtain ⟨p, hp⟩ : ∃ p, 2 * m = p := ⟨_, rfl⟩
    rw [hp]
    obtain ⟨q, hq⟩ : ∃ q, p + 1 = q := ⟨_, rfl⟩
    have eq_ : (p : Int) + 1 = (q : Int) := by omega
    have hmr : m ≤ 320 := by have := HX.out.2.2.1; omega
    by_cases hqr : q < r
    · have hqi : (q : Int) < (r : Int) := by omega
      have hpi : (p : Int) < (r : Int) := by omega
      obtain ⟨Gr, hGr1, hGr2⟩ := HX.out.2.1
      have hrl := HX.out.2.2.1
      obtain ⟨c0, c1⟩ := vrow_cell hGr1 p (by omega)
      obtain ⟨e0, e1⟩ := vrow_cell hGr1 q (by omega)
      have hgr := vown_lt hGr1
      have vX := hGr2 p (by omega)
      have vY := hGr2 q (by omega)
      have hxp : R[p]? = some (R.getD p d0) := by rw [List.getD_eq_getElem?_getD, List.getElem?_eq_getElem (by omega), Option.getD_some]
      have hyq : R[q]? = some (R.getD q d0) := by rw [List.getD_eq_getElem?_getD, List.getElem?_eq_getElem (by omega), Option.getD_some]
      have bx := HX.out.2.2.2.2.1 _ (List.mem_of_getElem? hxp)
      have by_ := HX.out.2.2.2.2.1 _ (List.mem_of_getElem? hyq)
      obtain ⟨⟨xw, xp⟩, hX⟩ : ∃ z, R.getD p d0 = z := ⟨_, rfl⟩
      obtain ⟨⟨yw, yp⟩, hY⟩ : ∃ z, R.getD q d0 = z := ⟨_, rfl⟩
      rw [hX] at c0 vX hxp bx
      rw [hY] at e0 vY hyq by_
      simp only at c0 e0 vX vY bx by_
      obtain ⟨gx, hgx⟩ : ∃ gx, Gr p = gx := ⟨_, rfl⟩
      obtain ⟨gy, hgy⟩ : ∃ gy, Gr q = gy := ⟨_, rfl⟩
      rw [hgx] at c1 vX
      rw [hgy] at e1 vY
      obtain ⟨z, hz⟩ : ∃ z, xw + yw = z := ⟨_, rfl⟩
      have hzb : (z : Int) ≤ 80000000000000 := by omega
      have hpk := prs_get PT.node R m (xw, xp) (yw, yp) (by rw [hp]; exact hxp) (by rw [hp, hq]; exact hyq)
      have HK : Hid (gr < w.heap.size ∧ Four gr p q xw gx yw gy n w) := Lib.hid ⟨hgr, c0, c1, e0, e1⟩
      have f0 := Four.to HK hbel
      obtain ⟨k0, k1, k2, k3⟩ := f0
      have hgrr : gr < wr.heap.size := by have := hbel.size; omega
      have hwq : IntKind.i64.wrap (q : Int) = (q : Int) := IntWalk.i64_in _ (by omega)
      have HB := Lib.hid hbel
      have HBO := Lib.hid (fun W (f : Below w.heap.size w W) => both_any xw gx yw gy n (vecP sy xp) (vecP sy yp) W (by omega) HX.out.2.2.2.2.2.2 (vX.to (Fr.of_below (l := []) f) (by simp)) (vY.to (Fr.of_below (l := []) f) (by simp)) (fun i _ => vecP_le _ _ _) (fun i _ => vecP_le _ _ _))
      rw [hz] at HBO
      obtain ⟨G, hG1, hG2⟩ := hV
      have hml : ((prs PT.node R).take m).length = m := by rw [List.length_take, prs_length]; omega
      unfold rowCells at hG1
      rw [hml] at hG1 hG2
      have HV := Lib.hid (And.intro hG1 (And.intro hG2 (And.intro hml (And.intro hpk (And.intro hp (And.intro hq hz))))))
      unfold rv at HBO
      clear hG1 hG2 hml hpk hbel hGr1 hGr2 c0 c1 e0 e1 vX vY hxp hyq hX hY hgx hgy hz hp hq hm bx by_ hgr
      go_wp2_with fail
      go_region_held3 (fun w' => w'.cell? ⟨gr, p * 2, none⟩ = some (.int .i64 (xw : Int)) ∧ w'.cell? ⟨gr, p * 2 + 1, none⟩ = some (.slice (some ⟨gx, 0, none⟩) n n) ∧ w'.cell? ⟨gr, q * 2, none⟩ = some (.int .i64 (yw : Int)) ∧ w'.cell? ⟨gr, q * 2 + 1, none⟩ = some (.slice (some ⟨gy, 0, none⟩) n n))
        (first | go_keep | exact Four.to HK (f5.out ((Fr.drew (Fr.refl [] _)).out HB.out (by simp)) (by simp)) | exact Four.to HK ((Fr.alloc [] _ _).out (f5.out ((Fr.drew (Fr.refl [] _)).out HB.out (by simp)) (by simp)) (by simp)) | exact Four.to HK HQ.out.2.2.1)
        (first | (go_at_call 80; refine (HBO.out _ ?_).mono ?_; exact (Fr.drew (Fr.refl [] _)).out HB.out (by simp); rintro e w5 ⟨g5, rfl, hge5, hN5, f5⟩) | (refine step_push w.heap.size w _ (by rfl) (.tmp 17) (.tmp 28) 109 (by rfl) 111 2 32 elemV u5 m _ (by rfl) (Lib.hid (ownsRow_to HV.out.1 (((Fr.drew (Fr.refl [] _)).trans f5).trans (Fr.alloc [] _ _)) (by simp))) (Lib.hid ((Fr.alloc [] _ _).out (f5.out ((Fr.drew (Fr.refl [] _)).out HB.out (by simp)) (by simp)) (by simp))) (((Fr.alloc [] _ _).out (f5.out ((Fr.drew (Fr.refl [] _)).out HB.out (by simp)) (by simp)) (by simp)).size) #[.int .i64 (z : Int), .slice (some ⟨g5, 0, none⟩) n n] w5.heap.size 1 1 (by rfl) (new_of _ _) (by rfl) (by rfl) (by omega) (by omega) (by omega) ?_; intro g' cap' w6 HQ))
      go_wp2_with fail
      go_roundw
      case rel =>
        obtain ⟨hG1, hG2, hml, hpk, hp, hq, hz⟩ := HV.out
        obtain ⟨hown6, hgrow6, hbel6, hge6⟩ := HQ.out
        have hfa := ((Fr.drew (Fr.refl [] wr)).trans f5).trans (Fr.alloc [] w5 (.cells #[.int .i64 (z : Int), .slice (some ⟨g5, 0, none⟩) n n] 111))
        have hownA := ownsRow_to hG1 hfa (by simp)
        have hm2 : 2 * (m + 1) ≤ R.length := by have := HX.out.2.2.1; omega
        refine ⟨m + 1, _, rfl, by first | go_num | (rw [← hp]; congr 1; omega), hm2, ?_, hbel6⟩
        have e : (prs PT.node R).take (m + 1) = (prs PT.node R).take m ++ [(z, .node xp yp)] := by
          rw [List.take_add_one, hpk, Option.toList_some, hz]
        rw [e]
        refine Vrow.snoc (g := g5) (G := G) ?_ (fun k hk => ?_) ?_
        · rw [hml]
          unfold rowCells
          rw [hml]
          exact hown6
        · rw [hml] at hk
          exact vecs_grown hownA hgrow6 ((hG2 k hk).to hfa (by simp))
        · rw [vecP_node]
          exact vecs_grown hownA hgrow6 (hN5.to (Fr.alloc [] w5 _) (by simp))
      case measure => simp [intOf]; omega
    · have hqd : decide (q < r) = false := by simp; omega
      have hqb : (q : Int) ≤ 1300 := by omega
      have hm2 : m = r / 2 := by have := HX.out.2.2.1; omega
      have hPm : (prs PT.node R).take m = prs PT.node R := List.take_of_length_le (by rw [prs_length, HX.out.2.2.1]; omega)
      rw [hPm] at hV
      have hPl : (prs PT.node R).length = m := by rw [prs_length, HX.out.2.2.1, hm2]
      have hPw : ∀ x ∈ prs PT.node R, x.1 ≤ 80000000000000 := fun x hx => by
        obtain ⟨k, hk⟩ := List.getElem?_of_mem hx
        have hkl := (List.getElem?_eq_some_iff.1 hk).1
        rw [hPl] at hkl
        have hRl2 := HX.out.2.2.1
        have := prs_get PT.node R k R[2 * k] R[2 * k + 1] (List.getElem?_eq_getElem (by omega)) (List.getElem?_eq_getElem (by omega))
        rw [hk] at this
        simp at this
        have h5 := HX.out.2.2.2.2.1 R[2 * k] (List.getElem_mem _)
        have h6 := HX.out.2.2.2.2.1 R[2 * k + 1] (List.getElem_mem _)
        rw [this]; simp only; omega
      obtain ⟨P, hP⟩ : ∃ P, prs PT.node R = P := ⟨_, rfl⟩
      rw [hP] at hV hPl hPw
      have HPE := Lib.hid hP
      have hm0 : 0 < m := by omega
      obtain ⟨G5, hG51, hG52⟩ := hV
      rw [hPl] at hG51 hG52
      rcases hG51.2 with ⟨_, h0⟩ | ⟨g5, c5, cur5, hv5, _⟩
      · omega
      subst hv5
      have hmi : (m : Int) ≤ 320 := by omega
      have hg5 := hG51.lt g5 rfl
      obtain ⟨wo, hwo⟩ : ∃ wo, wo = wr := ⟨wr, rfl⟩
      subst hwo
      have HP := Lib.hid (And.intro hG51 (And.intro hG52 (And.intro hPl (And.intro hPw (And.intro hg5 hbel)))))
      clear hG51 hG52 hPl hPw hg5 hbel hPm hm2 hP hqr hm
      go_wp2_with fail
      go_loopw [6, 8, 9] (fun v6 v8 v9 wr => NextB w wo n sy LL P g5 v6 v8 v9 wr) (fun _ v8 v9 _ => nl + m - (intOf v8).toNat - (intOf v9).toNat)
      case atStart => exact ⟨0, 0, _, [], rfl, rfl, rfl, Nat.zero_le _, Nat.zero_le _, rfl, by simp, Vrow.nil _ _ _ _, by simp [Value.ownBlock], fun b hb => by simp [Value.ownBlock] at hb, Fr.refl _ _⟩
      case round =>
        obtain ⟨i, k, u6, O, rfl, rfl, rfl, hi, hk, hOl, hO, hV6, hne, hge, hf⟩ := hrel
        rw [HX.out.2.2.2.1] at hi
        rw [HP.out.2.2.1] at hk
        have hki : (k : Int) ≤ (m : Int) := by omega
        have hii : (i : Int) ≤ (nl : Int) := by omega
        obtain ⟨GL, hGL1, hGL2⟩ := HX.out.1
        have hLl := HX.out.2.2.2.1
        have hPl := HP.out.2.2.1
        have hszw := HP.out.2.2.2.2.2.size
        have hgl := vown_lt hGL1
        have hbw : Below w.heap.size w wr := hf.out HP.out.2.2.2.2.2 (by simp)
        have hszo : w.heap.size ≤ wr.heap.size := hbw.size
        have hg5r : g5 < wr.heap.size := Nat.lt_of_lt_of_le HP.out.2.2.2.2.1.2 hf.size
        have hglr : gl < wr.heap.size := by omega
        obtain ⟨G6, hG61, hG62⟩ := hV6
        have HB := Lib.hid hbw
        have hG51r := ownsRow_to HP.out.1 hf (by simp)
        -- which comes next
        have hwhich : (∃ x, LL[i]? = some x ∧ i < nl ∧ (m ≤ k ∨ k < m ∧ ∃ y, P[k]? = some y ∧ x.1 ≤ y.1)) ∨ (∃ y, P[k]? = some y ∧ k < m ∧ (nl ≤ i ∨ i < nl ∧ ∃ x, LL[i]? = some x ∧ ¬ x.1 ≤ y.1)) ∨ (nl ≤ i ∧ m ≤ k) := by
          by_cases h1 : i < nl
          · have hx : LL[i]? = some LL[i] := List.getElem?_eq_getElem (by omega)
            by_cases h2 : k < m
            · have hy : P[k]? = some P[k] := List.getElem?_eq_getElem (by omega)
              by_cases h3 : LL[i].1 ≤ P[k].1
              · exact .inl ⟨_, hx, h1, .inr ⟨h2, _, hy, h3⟩⟩
              · exact .inr (.inl ⟨_, hy, h2, .inr ⟨h1, _, hx, h3⟩⟩)
            · exact .inl ⟨_, hx, h1, .inl (by omega)⟩
          · by_cases h2 : k < m
            · exact .inr (.inl ⟨_, List.getElem?_eq_getElem (by omega), h2, .inl (by omega)⟩)
            · exact .inr (.inr ⟨by omega, by omega⟩)
        have hOl2 : O.length ≤ 640 := by omega
        rcases hwhich with ⟨x, hx, hin, hcase⟩ | ⟨y, hy, hkm, hcase⟩ | ⟨hin, hkm⟩
        · -- a leaf
          obtain ⟨xw, xp⟩ := x
          have gx_ := getD_of_some hx
          obtain ⟨c0, c1⟩ := vrow_cell hGL1 i (by omega)
          have vX := hGL2 i (by omega)
          rw [gx_] at c0 vX
          simp only at c0 vX
          obtain ⟨gx, hgx⟩ : ∃ gx, GL i = gx := ⟨_, rfl⟩
          rw [hgx] at c1 vX
          have k0 : wr.cell? ⟨gl, i * 2, none⟩ = some (.int .i64 (xw : Int)) := by rw [hbw.cell (p := ⟨gl, i * 2, none⟩) hgl]; exact c0
          have k1 : wr.cell? ⟨gl, i * 2 + 1, none⟩ = some (.slice (some ⟨gx, 0, none⟩) n n) := by rw [hbw.cell (p := ⟨gl, i * 2 + 1, none⟩) hgl]; exact c1
          have bx := HX.out.2.2.2.2.2.1 _ (List.mem_of_getElem? hx)
          have hxwb : (xw : Int) ≤ 40000000000000 := by simp only at bx; omega
          have hini : (i : Int) < (nl : Int) := by omega
          have HS := Lib.hid (And.intro hG61 (And.intro hG62 (And.intro (vX.to (Fr.of_below (l := []) hbw) (by simp)) (And.intro hne (And.intro hge (And.intro hf (And.intro hOl hO)))))))
          have HO6 := Lib.hid hG61
          rcases hcase with hmk | ⟨hkm, ⟨yw, yp⟩, hy, hxy⟩
          · have hmki : (m : Int) ≤ (k : Int) := by omega
            have hkmd : decide (k < m) = false := by simp; omega
            have HM := Lib.hid (mrg_fst (P := P) (k := k) hx (.inl (by omega)))
            clear hG61 hG62 hG51r hbw hO hOl hne hge hGL1 hGL2 hf c0 c1 vX hgx gx_ hx bx hmk
            go_wp2_with fail
            refine wp_region_quiet_tail 22 (by kernel_rfl) (by kernel_rfl) ?_
            simp only [List.take_succ_cons, List.take_zero, List.drop_succ_cons, List.drop_zero]
            repeat go_big_quiet_step (fail)
            refine wpQuiet_nil ?_
            have HO7 := Lib.hid (ownsRow_to HO6.out (Fr.drew (Fr.refl [] wr)) (by simp))
            have HB7 := Lib.hid ((Fr.drew (Fr.refl [] wr)).out HB.out (by simp))
            go_wp2_with (first | (at_builtin; go_must (refine wpList_push w.heap.size w wr.drew rfl (.tmp 63) (.tmp 68) 109 rfl 111 2 32 elemV u6 O.length _ rfl HO7 HB7 hszo #[.int .i64 (xw : Int), .slice (some ⟨gx, 0, none⟩) n n] 1 1 rfl rfl rfl (by omega) (by omega) (by omega) ?_); intro g6 c6 w6 HQ))
            obtain ⟨s1, s2, s3, s4, s5, s6, s7, s8⟩ := HS.out
            have hfin := next_push (O := O) (xp := xp) rfl rfl HQ.out (ownsRow_to s1 (Fr.drew (Fr.refl [] wr)) (by simp)) (fun k hk => (s2 k hk).to (Fr.drew (Fr.refl [] wr)) (by simp)) (s3.to (Fr.drew (Fr.refl [] wr)) (by simp)) s4 s5 s6.drew hg5r
            exact ⟨⟨i + 1, k, _, O ++ [(xw, xp)], rfl, by go_num, rfl, by omega, by omega, by rw [List.length_append, s7]; simp; omega, by rw [s8, HM.out, List.append_assoc]; rfl, hfin.1, hfin.2.1, hfin.2.2.1, hfin.2.2.2⟩, by simp [intOf]; omega⟩
          · have hkmi : (k : Int) < (m : Int) := by omega
            have gy_ := getD_of_some hy
            have hG51r2 := hG51r
            rw [← hPl] at hG51r2
            obtain ⟨e0, _⟩ := vrow_cell hG51r2 k (by omega)
            rw [gy_] at e0
            simp only at e0
            have by_ := HP.out.2.2.2.1 _ (List.mem_of_getElem? hy)
            have hywb : (yw : Int) ≤ 80000000000000 := by simp only at by_; omega
            have hxyi : (xw : Int) ≤ (yw : Int) := by simp only at hxy; omega
            have hmkd : decide (m ≤ k) = false := by simp; omega
            have HM := Lib.hid (mrg_fst (LL := LL) (i := i) hx (.inr ⟨_, hy, hxy⟩))
            clear hG61 hG62 hG51r hG51r2 hbw hO hOl hne hge hGL1 hGL2 hf c0 c1 vX hgx gx_ hx bx hxy hy gy_ by_
            go_wp2_with fail
            refine wp_region_quiet_tail 22 (by kernel_rfl) (by kernel_rfl) ?_
            simp only [List.take_succ_cons, List.take_zero, List.drop_succ_cons, List.drop_zero]
            repeat go_big_quiet_step (fail)
            refine wpQuiet_nil ?_
            have HO7 := Lib.hid (ownsRow_to HO6.out (Fr.drew (Fr.refl [] wr)) (by simp))
            have HB7 := Lib.hid ((Fr.drew (Fr.refl [] wr)).out HB.out (by simp))
            go_wp2_with (first | (at_builtin; go_must (refine wpList_push w.heap.size w wr.drew rfl (.tmp 63) (.tmp 68) 109 rfl 111 2 32 elemV u6 O.length _ rfl HO7 HB7 hszo #[.int .i64 (xw : Int), .slice (some ⟨gx, 0, none⟩) n n] 1 1 rfl rfl rfl (by omega) (by omega) (by omega) ?_); intro g6 c6 w6 HQ))
            obtain ⟨s1, s2, s3, s4, s5, s6, s7, s8⟩ := HS.out
            have hfin := next_push (O := O) (xp := xp) rfl rfl HQ.out (ownsRow_to s1 (Fr.drew (Fr.refl [] wr)) (by simp)) (fun k hk => (s2 k hk).to (Fr.drew (Fr.refl [] wr)) (by simp)) (s3.to (Fr.drew (Fr.refl [] wr)) (by simp)) s4 s5 s6.drew hg5r
            exact ⟨⟨i + 1, k, _, O ++ [(xw, xp)], rfl, by go_num, rfl, by omega, by omega, by rw [List.length_append, s7]; simp; omega, by rw [s8, HM.out, List.append_assoc]; rfl, hfin.1, hfin.2.1, hfin.2.2.1, hfin.2.2.2⟩, by simp [intOf]; omega⟩
        · obtain ⟨yw, yp⟩ := y
          have gy_ := getD_of_some hy
          have hG51r2 := hG51r
          rw [← hPl] at hG51r2
          obtain ⟨e0, e1⟩ := vrow_cell hG51r2 k (by omega)
          have vY := (HP.out.2.1 k hkm).to hf (by simp)
          rw [gy_] at e0 vY
          simp only at e0 vY
          obtain ⟨gy, hgy⟩ : ∃ gy, G5 k = gy := ⟨_, rfl⟩
          rw [hgy] at e1 vY
          have by_ := HP.out.2.2.2.1 _ (List.mem_of_getElem? hy)
          have hywb : (yw : Int) ≤ 80000000000000 := by simp only at by_; omega
          have hkmi : (k : Int) < (m : Int) := by omega
          have hmkd : decide (m ≤ k) = false := by simp; omega
          have HS := Lib.hid (And.intro hG61 (And.intro hG62 (And.intro vY (And.intro hne (And.intro hge (And.intro hf (And.intro hOl hO)))))))
          have HO6 := Lib.hid hG61
          rcases hcase with hnk | ⟨hin, ⟨xw, xp⟩, hx, hxy⟩
          · have hnki : (nl : Int) ≤ (i : Int) := by omega
            have hind : decide (i < nl) = false := by simp; omega
            have HM := Lib.hid (mrg_snd (LL := LL) (i := i) hy (.inl (by omega)))
            clear hG61 hG62 hG51r hG51r2 hbw hO hOl hne hge hGL1 hGL2 hf vY hgy gy_ hy by_ hnk hkm
            go_wp2_with fail
            refine wp_region_quiet_tail 22 (by kernel_rfl) (by kernel_rfl) ?_
            simp only [List.take_succ_cons, List.take_zero, List.drop_succ_cons, List.drop_zero]
            repeat go_big_quiet_step (fail)
            refine wpQuiet_nil ?_
            have HO7 := Lib.hid (ownsRow_to HO6.out (Fr.drew (Fr.refl [] wr)) (by simp))
            have HB7 := Lib.hid ((Fr.drew (Fr.refl [] wr)).out HB.out (by simp))
            go_wp2_with (first | (at_builtin; go_must (refine wpList_push w.heap.size w wr.drew rfl (.tmp 72) (.tmp 77) 109 rfl 111 2 32 elemV u6 O.length _ rfl HO7 HB7 hszo #[.int .i64 (yw : Int), .slice (some ⟨gy, 0, none⟩) n n] 1 1 rfl rfl rfl (by omega) (by omega) (by omega) ?_); intro g6 c6 w6 HQ))
            obtain ⟨s1, s2, s3, s4, s5, s6, s7, s8⟩ := HS.out
            have hfin := next_push (O := O) (xp := yp) rfl rfl HQ.out (ownsRow_to s1 (Fr.drew (Fr.refl [] wr)) (by simp)) (fun k hk => (s2 k hk).to (Fr.drew (Fr.refl [] wr)) (by simp)) (s3.to (Fr.drew (Fr.refl [] wr)) (by simp)) s4 s5 s6.drew hg5r
            exact ⟨⟨i, k + 1, _, O ++ [(yw, yp)], rfl, rfl, by go_num, by omega, by omega, by rw [List.length_append, s7]; simp; omega, by rw [s8, HM.out, List.append_assoc]; rfl, hfin.1, hfin.2.1, hfin.2.2.1, hfin.2.2.2⟩, by simp [intOf]; omega⟩
          · have hini : (i : Int) < (nl : Int) := by omega
            have gx_ := getD_of_some hx
            obtain ⟨c0, _⟩ := vrow_cell hGL1 i (by omega)
            rw [gx_] at c0
            simp only at c0
            have k0 : wr.cell? ⟨gl, i * 2, none⟩ = some (.int .i64 (xw : Int)) := by rw [hbw.cell (p := ⟨gl, i * 2, none⟩) hgl]; exact c0
            have bx := HX.out.2.2.2.2.2.1 _ (List.mem_of_getElem? hx)
            have hxwb : (xw : Int) ≤ 40000000000000 := by simp only at bx; omega
            have hxyi : (yw : Int) < (xw : Int) := by simp only at hxy; omega
            have HM := Lib.hid (mrg_snd (P := P) (k := k) hy (.inr ⟨_, hx, hxy⟩))
            clear hG61 hG62 hG51r hG51r2 hbw hO hOl hne hge hGL1 hGL2 hf vY hgy gy_ hy by_ hkm gx_ c0 hx bx hxy
            go_wp2_with fail
            refine wp_region_quiet_tail 22 (by kernel_rfl) (by kernel_rfl) ?_
            simp only [List.take_succ_cons, List.take_zero, List.drop_succ_cons, List.drop_zero]
            repeat go_big_quiet_step (fail)
            refine wpQuiet_nil ?_
            have HO7 := Lib.hid (ownsRow_to HO6.out (Fr.drew (Fr.refl [] wr)) (by simp))
            have HB7 := Lib.hid ((Fr.drew (Fr.refl [] wr)).out HB.out (by simp))
            go_wp2_with (first | (at_builtin; go_must (refine wpList_push w.heap.size w wr.drew rfl (.tmp 72) (.tmp 77) 109 rfl 111 2 32 elemV u6 O.length _ rfl HO7 HB7 hszo #[.int .i64 (yw : Int), .slice (some ⟨gy, 0, none⟩) n n] 1 1 rfl rfl rfl (by omega) (by omega) (by omega) ?_); intro g6 c6 w6 HQ))
            obtain ⟨s1, s2, s3, s4, s5, s6, s7, s8⟩ := HS.out
            have hfin := next_push (O := O) (xp := yp) rfl rfl HQ.out (ownsRow_to s1 (Fr.drew (Fr.refl [] wr)) (by simp)) (fun k hk => (s2 k hk).to (Fr.drew (Fr.refl [] wr)) (by simp)) (s3.to (Fr.drew (Fr.refl [] wr)) (by simp)) s4 s5 s6.drew hg5r
            exact ⟨⟨i, k + 1, _, O ++ [(yw, yp)], rfl, rfl, by go_num, by omega, by omega, by rw [List.length_append, s7]; simp; omega, by rw [s8, HM.out, List.append_assoc]; rfl, hfin.1, hfin.2.1, hfin.2.2.1, hfin.2.2.2⟩, by simp [intOf]; omega⟩
        · have hin' : decide (i < nl) = false := by simp; omega
          have hkm' : decide (k < m) = false := by simp; omega
          have hend : O = mrg LL P := by rw [hO, List.drop_eq_nil_of_le (by omega), List.drop_eq_nil_of_le (by omega), mrg_nil, List.append_nil]
          have HE := Lib.hid (show Vrow wr w.heap.size u6 n sy (mrg LL P) from hend ▸ ⟨G6, hG61, hG62⟩)
          clear hG61 hG62 hG51r hf hbw hO hOl hne hge hGL1 hGL2
          go_wp2_with fail
          go_ret
          rw [HPE.out]
          exact ⟨_, rfl, HE.out, HB.out⟩
end Go.Proofs.Ytciejmlhdmjajaa
namespace Go.Proofs.Ytciejmlhdmjajaa
open Go.RowKit
set_option linter.unusedVariables false
set_option linter.unusedSimpArgs false

theorem lev_w {L : List (Nat × PT)} (h : ∀ x ∈ L, x.1 ≤ 1073741824) : ∀ j, ∀ x ∈ lev PT.node L j, x.1 ≤ 2 ^ (30 + j)
  | 0, x, hx => Nat.le_trans (h x hx) (by decide)
  | j + 1, x, hx => by
    have ih := lev_w h j
    have e : 2 ^ (30 + (j + 1)) = 2 ^ (30 + j) * 2 := Nat.pow_succ _ _
    have e0 : 2 ^ 30 ≤ 2 ^ (30 + j) := Nat.pow_le_pow_right (by decide) (by omega)
    rw [lev] at hx
    rcases List.mem_append.1 ((mrg_perm _ _).subset hx) with hx | hx
    · have := h x hx; omega
    · obtain ⟨k, hk⟩ := List.getElem?_of_mem hx
      have hkl := (List.getElem?_eq_some_iff.1 hk).1
      rw [prs_length] at hkl
      have := prs_get PT.node (lev PT.node L j) k (lev PT.node L j)[2 * k] (lev PT.node L j)[2 * k + 1] (List.getElem?_eq_getElem (by omega)) (List.getElem?_eq_getElem (by omega))
      rw [hk] at this
      simp at this
      have h5 := ih _ (List.getElem_mem (show 2 * k < (lev PT.node L j).length by omega))
      have h6 := ih _ (List.getElem_mem (show 2 * k + 1 < (lev PT.node L j).length by omega))
      rw [this]; simp only; omega
set_option maxRecDepth 2000000 in
set_option maxHeartbeats 6400000 in
/-- A limit that may not be, or too many counts. -/
theorem refLens_a (a : Option Addr) (c : Nat) (l : List Int) (limit : Int) (w : World) (hl : l.length ≤ 9223372036854775807) (hg0 : -9223372036854775808 ≤ limit) (hg1 : limit ≤ 9223372036854775807) (hb : 320 < l.length ∨ limit < 1 ∨ 15 < limit) :
    Calls Try.prog 30 #[.slice a l.length c, .int .i64 limit] w fun e w' => e = .returned (.tuple #[.slice none 0 0, .int .i64 2]) ∧ w' = w := by
  have hl1 : (l.length : Int) ≤ 9223372036854775807 := by omega
  by_cases h1 : 320 < l.length
  · have h1i : 320 < (l.length : Int) := by omega
    clear hb hl
    go_enter Try.func30, Try.ntmps30
    go_wp2_with fail
    go_ret2
    exact ⟨rfl, rfl⟩
  · have h1i : (l.length : Int) ≤ 320 := by omega
    by_cases h2 : limit < 1
    · clear hb hl h1
      go_enter Try.func30, Try.ntmps30
      go_wp2_with fail
      go_ret2
      exact ⟨rfl, rfl⟩
    · have h2i : 1 ≤ limit := by omega
      have h3 : 15 < limit := by omega
      clear hb hl h1 h2
      go_enter Try.func30, Try.ntmps30
      go_wp2_with fail
      go_ret2
      exact ⟨rfl, rfl⟩
set_option maxRecDepth 2000000 in
set_option maxHeartbeats 6400000 in
/-- A count that may not be. -/
theorem refLens_b (a : Option Addr) (c : Nat) (l : List Int) (limit : Int) (w : World) (hs : SlOf (Zn .i64) 1 w a l) (hl : l.length ≤ 320) (hg0 : 1 ≤ limit) (hg1 : limit ≤ 15) (hb : badC l) :
    Calls Try.prog 30 #[.slice a l.length c, .int .i64 limit] w fun e w' => e = .returned (.tuple #[.slice none 0 0, .int .i64 2]) ∧ w' = w := by
  have hl1 : (l.length : Int) ≤ 320 := by omega
  have HX := Lib.hid (And.intro hs (And.intro hl hb))
  clear hs hl hb
  go_enter Try.func30, Try.ntmps30
  go_wp2_with fail
  go_loopw [6] (fun v6 wr => ∃ j : Nat, v6 = .int .i64 (j : Int) ∧ j ≤ l.length ∧ Hid (∀ x ∈ l.take j, 0 ≤ x ∧ x ≤ 1073741824) ∧ wr = w) (fun v6 _ => l.length - (intOf v6).toNat)
  case atStart => exact ⟨0, rfl, Nat.zero_le _, Lib.hid (fun x hx => by simp at hx), rfl⟩
  case round =>
    obtain ⟨j, rfl, hj, hok, hw⟩ := hrel
    replace hw := hw.symm
    subst hw
    by_cases hjl : j < l.length
    · have hji : (j : Int) < (l.length : Int) := by omega
      obtain ⟨x, hx⟩ : ∃ x, l[j]? = some x := ⟨l[j], List.getElem?_eq_getElem hjl⟩
      obtain ⟨g1, o1, rfl, hb1, hc1⟩ := HX.out.1 (by intro h; rw [h] at hx; simp at hx)
      have c1 := hc1 j x hx 0 (.int .i64 x) rfl
      rw [Nat.mul_one, Nat.add_zero] at c1
      have HH := Lib.hid hx
      by_cases h0 : x < 0
      · clear hc1 hx
        go_wp2_with fail
        go_ret2
        exact ⟨rfl, rfl⟩
      · have h0i : 0 ≤ x := by omega
        by_cases h1 : 1073741824 < x
        · clear hc1 hx h0
          go_wp2_with fail
          go_ret2
          exact ⟨rfl, rfl⟩
        · have h1i : x ≤ 1073741824 := by omega
          clear hc1 hx h0 h1
          go_wp2_with fail
          refine ⟨⟨j + 1, by go_num, by omega, Lib.hid (fun y hy => ?_), by first | rfl | trivial⟩, by simp [intOf]; omega⟩
          rw [List.take_add_one, HH.out] at hy
          rcases List.mem_append.1 hy with hy | hy
          · exact hok.out y hy
          · simp at hy; omega
    · exfalso
      have hje : j = l.length := by omega
      have := hok.out
      rw [hje, List.take_length] at this
      rcases HX.out.2.2 with h | ⟨x, hx, h⟩
      · have := HX.out.2.1; omega
      · have := this x hx; omega
/-- Behind the checks: the symbols, and how many there are. -/
def RefS (w : World) (l : List Int) (n : Nat) (v7 : Value) (F : Nat → Nat) (wr : World) : Prop :=
  wr.ownsRow w.heap.size 3 1 v7 n (ivs n F) ∧ (List.range n).map (fun k => (wt0 l (F k), F k)) = sortC l ∧ Below w.heap.size w wr
theorem refS_get {l : List Int} {n : Nat} {F : Nat → Nat} (h : (List.range n).map (fun k => (wt0 l (F k), F k)) = sortC l) {k : Nat} (hk : k < n) : (sortC l)[k]? = some (wt0 l (F k), F k) := by
  rw [← h, List.getElem?_map, List.getElem?_range hk]; rfl
theorem refS_is {l : List Int} {n : Nat} {F : Nat → Nat} (h : (List.range n).map (fun k => (wt0 l (F k), F k)) = sortC l) {k : Nat} (hk : k < n) : ∃ c, l[F k]? = some c ∧ 0 < c ∧ wt0 l (F k) = c.toNat :=
  (sortC_mem l _).1 (List.mem_of_getElem? (refS_get h hk))
theorem refS_inj {l : List Int} {n : Nat} {F : Nat → Nat} (h : (List.range n).map (fun k => (wt0 l (F k), F k)) = sortC l) {i k : Nat} (hi : i < n) (hk : k < n) (he : F i = F k) : i = k := by
  have hd := sortC_dst l
  unfold dst at hd
  rw [List.pairwise_map, List.pairwise_iff_getElem] at hd
  have hlen : (sortC l).length = n := by rw [← h]; simp
  have gi := (List.getElem?_eq_some_iff.1 (refS_get h hi)).2
  have gk := (List.getElem?_eq_some_iff.1 (refS_get h hk)).2
  rcases Nat.lt_trichotomy i k with hik | hik | hik
  · have := hd i k (by omega) (by omega) hik
    rw [gi, gk] at this
    simp only [leafP, symP] at this
    exact absurd he this
  · exact hik
  · have := hd k i (by omega) (by omega) hik
    rw [gi, gk] at this
    simp only [leafP, symP] at this
    exact absurd he.symm this
end Go.Proofs.Ytciejmlhdmjajaa

