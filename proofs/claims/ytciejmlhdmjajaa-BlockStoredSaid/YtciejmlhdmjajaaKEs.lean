/- block.Order: the order of code lengths of code lengths. Package block: how codes are told. -/
import Derived.Test.YtciejmlhdmjajaaKEe
import Derived.Test.YtciejmlhdmjajaaKEq
import Derived.Test.YtciejmlhdmjajaaKEn
import Derived.Test.YtciejmlhdmjajaaKCa
namespace Go.Proofs.Ytciejmlhdmjajaa
open Go.RowKit
set_option linter.unusedVariables false
set_option linter.unusedSimpArgs false

def orderL : List Nat := [16, 17, 18, 0, 8, 7, 9, 6, 10, 5, 11, 4, 12, 3, 13, 2, 14, 1, 15]
def orderC : Array Value := #[.int .u8 16, .int .u8 17, .int .u8 18, .int .u8 0, .int .u8 8, .int .u8 7, .int .u8 9, .int .u8 6, .int .u8 10, .int .u8 5, .int .u8 11, .int .u8 4, .int .u8 12, .int .u8 3, .int .u8 13, .int .u8 2, .int .u8 14, .int .u8 1, .int .u8 15]
set_option maxRecDepth 100000 in
set_option maxHeartbeats 1600000 in
theorem order_ok (w : World) : Calls Try.prog 15 #[] w fun e w' => e = .returned (.slice (some ⟨w.heap.size, 0, none⟩) 19 19) ∧ w'.heap[w.heap.size]? = some (.cells orderC 5 (0, 0)) ∧ Fr [] w w' := by
  go_enter Try.func15, Try.ntmps15
  go_wp2_with fail
  go_ret
  exact ⟨rfl, alloc_last _ _, Fr.alloc _ _ _⟩
end Go.Proofs.Ytciejmlhdmjajaa
namespace Go.Proofs.Ytciejmlhdmjajaa
open Go.RowKit
set_option linter.unusedVariables false
set_option linter.unusedSimpArgs false

/-- What is told of codes. -/
def allL (lit dist : List Nat) : List Nat := lit.take (uptoL lit 257) ++ dist.take (uptoL dist 1)
def rsL (lit dist : List Nat) : List (Nat × Nat) := packL (allL lit dist)
def cntR (rs : List (Nat × Nat)) (i : Nat) : Nat := (rs.filter fun p => p.1 == i).length
def ownF (lit dist : List Nat) (s : Nat) : Nat := lenS (ctL (cntR (rsL lit dist)) 19) 7 s
def ordL (lit dist : List Nat) : List Nat := orderL.map (ownF lit dist)
theorem repL_ok (s : Nat) (hs : s = 16 ∨ s = 17 ∨ s = 18) : ∀ n, ∀ p ∈ repL s n, p.1 = s ∧ p.2 < 2 ^ rbN s := by
  intro n
  induction n using Nat.strongRecOn with
  | _ n ih =>
    intro p hp
    have hl := lo_most s
    by_cases h : loN s ≤ n
    · rw [repL_step s n h] at hp
      rcases List.mem_cons.1 hp with rfl | hp
      · refine ⟨rfl, ?_⟩
        rcases hs with rfl | rfl | rfl
        · have e1 : mostN 16 = 6 := by decide
          have e2 : loN 16 = 3 := by decide
          have e3 : 2 ^ rbN 16 = 4 := by decide
          rw [e1, e2, e3]; show min n 6 - 3 < 4; omega
        · have e1 : mostN 17 = 10 := by decide
          have e2 : loN 17 = 3 := by decide
          have e3 : 2 ^ rbN 17 = 8 := by decide
          rw [e1, e2, e3]; show min n 10 - 3 < 8; omega
        · have e1 : mostN 18 = 138 := by decide
          have e2 : loN 18 = 11 := by decide
          have e3 : 2 ^ rbN 18 = 128 := by decide
          rw [e1, e2, e3]; show min n 138 - 11 < 128; omega
      · exact ih (n - min n (mostN s)) (by omega) p hp
    · rw [repL_end s n (by omega)] at hp
      cases hp
def RunOk (p : Nat × Nat) : Prop := p.1 ≤ 18 ∧ p.2 < 2 ^ rbN p.1
theorem runL_ok (v n : Nat) (hv : v ≤ 15) : ∀ p ∈ runL v n, RunOk p := by
  intro p hp
  have hz : ∀ x : Nat, x ≤ 15 → RunOk (x, 0) := fun x hx => ⟨by show x ≤ 18; omega, Nat.pow_pos (by decide)⟩
  unfold runL at hp
  split at hp
  · rcases List.mem_append.1 hp with h | h
    · obtain ⟨h1, h2⟩ := repL_ok 18 (by omega) _ p h
      exact ⟨by omega, by rw [h1]; exact h2⟩
    · rcases List.mem_append.1 h with h | h
      · obtain ⟨h1, h2⟩ := repL_ok 17 (by omega) _ p h
        exact ⟨by omega, by rw [h1]; exact h2⟩
      · rw [List.eq_of_mem_replicate h]; exact hz 0 (by omega)
  · rcases List.mem_cons.1 hp with h | h
    · rw [h]; exact hz v hv
    · rcases List.mem_append.1 h with h | h
      · obtain ⟨h1, h2⟩ := repL_ok 16 (by omega) _ p h
        exact ⟨by omega, by rw [h1]; exact h2⟩
      · rw [List.eq_of_mem_replicate h]; exact hz v hv
theorem packL_ok : ∀ l : List Nat, (∀ v ∈ l, v ≤ 15) → ∀ p ∈ packL l, RunOk p := by
  intro l
  generalize hn : l.length = n
  induction n using Nat.strongRecOn generalizing l with
  | _ n ih =>
    intro hl p hp
    cases l with
    | nil => cases hp
    | cons v l =>
      rw [packL_cons] at hp
      rcases List.mem_append.1 hp with h | h
      · exact runL_ok v _ (hl v (by simp)) p h
      · exact ih _ (by rw [List.length_drop]; simp at hn; omega) _ rfl (fun u hu => hl u (by simp [List.mem_of_mem_drop hu])) p h
theorem allL_ok {lit dist : List Nat} (h8 : ∀ x ∈ lit, x ≤ 15) (k8 : ∀ x ∈ dist, x ≤ 15) : ∀ v ∈ allL lit dist, v ≤ 15 := fun v hv => by
  rcases List.mem_append.1 hv with h | h
  · exact h8 v (List.mem_of_mem_take h)
  · exact k8 v (List.mem_of_mem_take h)
theorem cntR_take (rs : List (Nat × Nat)) (k : Nat) (p : Nat × Nat) (h : rs[k]? = some p) (i : Nat) : cntR (rs.take (k + 1)) i = if i = p.1 then cntR (rs.take k) p.1 + 1 else cntR (rs.take k) i := by
  unfold cntR
  rw [List.take_add_one, h, List.filter_append, List.length_append]
  by_cases hi : i = p.1
  · subst hi; simp
  · have : ¬ p.1 = i := fun e => hi e.symm
    simp [hi, this]
theorem cntR_le (rs : List (Nat × Nat)) (i : Nat) : cntR rs i ≤ rs.length := List.length_filter_le _ _
theorem zc19 : (#[Value.int .i64 0, Value.int .i64 0, Value.int .i64 0, Value.int .i64 0, Value.int .i64 0, Value.int .i64 0, Value.int .i64 0, Value.int .i64 0, Value.int .i64 0, Value.int .i64 0, Value.int .i64 0, Value.int .i64 0, Value.int .i64 0, Value.int .i64 0, Value.int .i64 0, Value.int .i64 0, Value.int .i64 0, Value.int .i64 0, Value.int .i64 0] : Array Value) = ((List.range 19).map fun j => Value.int .i64 (((fun _ => 0 : Nat → Nat) j : Nat) : Int)).toArray := by kernel_rfl
theorem needN_19 : ∀ k : Nat, k < 20 → needN (k : Int) ≤ 7 := by decide +kernel
theorem order_get (k : Nat) (h : k < 19) : ∃ s, orderL[k]? = some s ∧ s < 19 ∧ orderC[k]? = some (.int .u8 (s : Int)) := by
  have : ∀ k : Nat, k < 19 → ∃ s, orderL[k]? = some s ∧ s < 19 ∧ orderC[k]? = some (.int .u8 (s : Int)) := by
    intro k hk
    rcases (show k = 0 ∨ k = 1 ∨ k = 2 ∨ k = 3 ∨ k = 4 ∨ k = 5 ∨ k = 6 ∨ k = 7 ∨ k = 8 ∨ k = 9 ∨ k = 10 ∨ k = 11 ∨ k = 12 ∨ k = 13 ∨ k = 14 ∨ k = 15 ∨ k = 16 ∨ k = 17 ∨ k = 18 by omega) with rfl | rfl | rfl | rfl | rfl | rfl | rfl | rfl | rfl | rfl | rfl | rfl | rfl | rfl | rfl | rfl | rfl | rfl | rfl
    all_goals exact ⟨_, rfl, by omega, rfl⟩
  exact this k h
theorem ordL_take (lit dist : List Nat) (k s : Nat) (h : orderL[k]? = some s) : (ordL lit dist).take (k + 1) = (ordL lit dist).take k ++ [ownF lit dist s] := by
  unfold ordL
  rw [List.take_add_one, List.getElem?_map, h]
  rfl
theorem fr_below {L : List Nat} {a b c : World} (h : Fr L a b) (k : Below a.heap.size b c) : Fr L a c :=
  ⟨k.os.trans h.os, k.tape.trans h.tape, k.output.trans h.output, Nat.le_trans h.size k.size, fun i hi hm => (k.block i hi).trans (h.block i hi hm)⟩
theorem lenS_le (F : Nat → Nat) (n m s : Nat) (h1 : 1 ≤ m) (hn : n ≤ 2 ^ m) : lenS (ctL F n) m s ≤ m :=
  lens_fits _ m h1 (by rw [← posN_sort]; exact Nat.le_trans (posN_le F n) hn) s
theorem own_le (lit dist : List Nat) (s : Nat) : ownF lit dist s ≤ 7 := lenS_le _ 19 7 s (by omega) (by omega)
theorem ordL_le (lit dist : List Nat) : ∀ x ∈ ordL lit dist, x ≤ 7 := fun x hx => by
  obtain ⟨s, _, rfl⟩ := List.mem_map.1 hx
  exact own_le lit dist s
/-- A head in memory: what its slices hold; where they lie. -/
structure HeadM (z : Nat) (lit dist : List Nat) (ao : Option Addr) (ag : Nat) (ar : Option Addr) (W : World) : Prop where
  ord : SlOf U8 1 W ao (ordL lit dist)
  own : Nrow W ag 5 .u8 19 (ownF lit dist)
  rs : SlOf RunE 2 W ar (rsL lit dist)
  zo : ∀ a, ao = some a → z ≤ a.block
  zg : z ≤ ag
  zr : ∀ a, ar = some a → z ≤ a.block
theorem HeadM.to {z : Nat} {lit dist : List Nat} {ao ar : Option Addr} {ag : Nat} {A B : World} {L : List Nat} (h : HeadM z lit dist ao ag ar A) (f : Fr L A B) (hL : ∀ i, i ∈ L → i < z) : HeadM z lit dist ao ag ar B :=
  ⟨h.ord.fr f fun a ha hm => by have := hL _ hm; have := h.zo a ha; omega, h.own.to f fun hm => by have := hL _ hm; have := h.zg; omega, h.rs.fr f fun a ha hm => by have := hL _ hm; have := h.zr a ha; omega, h.zo, h.zg, h.zr⟩
theorem own_blkE {w : World} {B : Nat} {e : TypeId} {sz n c : Nat} {a : Addr} {xs : List Value} (h : w.ownsRow B e sz (.slice (some a) n c) n xs) : B ≤ a.block := by
  rcases h.2 with ⟨h1, _⟩ | ⟨g, cap, cur, h1, hb, _⟩
  · cases h1
  · cases h1; exact hb
theorem set6 {w : World} {r : Nat} {T : TypeId} {c0 c1 c2 c3 c4 c5 : Value} (v0 v1 v2 v3 v4 v5 : Value) (h : w.heap[r]? = some (.cells #[c0, c1, c2, c3, c4, c5] T (0, 0))) :
    (((((((w).setCell ⟨r, 0, none⟩ v0).setCell ⟨r, 1, none⟩ v1).setCell ⟨r, 2, none⟩ v2).setCell ⟨r, 3, none⟩ v3).setCell ⟨r, 4, none⟩ v4).setCell ⟨r, 5, none⟩ v5).heap[r]? = some (.cells #[v0, v1, v2, v3, v4, v5] T (0, 0)) ∧ Fr [r] w (((((((w).setCell ⟨r, 0, none⟩ v0).setCell ⟨r, 1, none⟩ v1).setCell ⟨r, 2, none⟩ v2).setCell ⟨r, 3, none⟩ v3).setCell ⟨r, 4, none⟩ v4).setCell ⟨r, 5, none⟩ v5) := by
  have h6 := set_of (set_of (set_of (set_of (set_of (set_of h 0 v0) 1 v1) 2 v2) 3 v3) 4 v4) 5 v5
  exact ⟨by simpa using h6, (((((Fr.setCell _ _ _ _).trans (Fr.setCell _ _ _ _)).trans (Fr.setCell _ _ _ _)).trans (Fr.setCell _ _ _ _)).trans (Fr.setCell _ _ _ _)).trans (Fr.setCell _ _ _ _)⟩
def HdBox (w : World) (a b : Nat) (v : Value) (wx : World) : Prop :=
  ∃ hb, v = .pointer (some ⟨hb, 0, none⟩) ∧ w.heap.size ≤ hb ∧ wx.heap[hb]? = some (.cells #[.int .i64 (a : Int), .int .i64 (b : Int), .int .i64 0, .slice none 0 0, .slice none 0 0, .slice none 0 0] 79 (0, 0)) ∧ Fr [] w wx
theorem row_cap {w : World} {B : Nat} {e : TypeId} {sz n c : Nat} {a : Option Addr} {xs : List Value} (h : w.ownsRow B e sz (.slice a n c) n xs) : n ≤ c := by
  rcases h.2 with ⟨h1, h2⟩ | ⟨g, cap, cur, h1, _, _, h2, _⟩
  · omega
  · cases h1; exact h2
set_option maxRecDepth 100000 in
set_option maxHeartbeats 3200000 in
theorem heads_ok (aL aD : Option Addr) (cL cD : Nat) (lit dist : List Nat) (w : World) (hL : SlOf U8 1 w aL lit) (hD : SlOf U8 1 w aD dist) (h8 : ∀ x ∈ lit, x ≤ 15) (k8 : ∀ x ∈ dist, x ≤ 15) (hll : lit.length = 286) (hdl : dist.length = 30) (hcL : 286 ≤ cL) (hcD : 30 ≤ cD) :
    Calls Try.prog 33 #[.agg #[.slice aL lit.length cL, .slice aD dist.length cD]] w fun e w' => ∃ ao co ag ar cr, e = .returned (.agg #[.int .i64 ((uptoL lit 257 : Nat) : Int), .int .i64 ((uptoL dist 1 : Nat) : Int), .int .i64 ((uptoL (ordL lit dist) 4 : Nat) : Int), .slice ao 19 co, .slice (some ⟨ag, 0, none⟩) 19 19, .slice ar (rsL lit dist).length cr]) ∧ HeadM w.heap.size lit dist ao ag ar w' ∧ Fr [] w w' ∧ 19 ≤ co := by
  have HB := Lib.hid (And.intro hL (And.intro hD (And.intro h8 (And.intro k8 (And.intro hll hdl)))))
  have hU1 := Lib.hid (fun W (f : Fr [] w W) => bupto_ok aL cL lit 257 W (hL.fr0 f) (by omega) (fun x hx => by have := h8 x hx; omega))
  have hU2 := Lib.hid (fun W (f : Fr [] w W) => bupto_ok aD cD dist 1 W (hD.fr0 f) (by omega) (fun x hx => by have := k8 x hx; omega))
  obtain ⟨na, hna⟩ : ∃ na, uptoL lit 257 = na := ⟨_, rfl⟩
  obtain ⟨nb, hnb⟩ : ∃ nb, uptoL dist 1 = nb := ⟨_, rfl⟩
  have ha1 : 257 ≤ na := by rw [← hna]; exact uptoD_ge lit 257 _ (by omega)
  have ha2 : na ≤ 286 := by rw [← hna, ← hll]; exact uptoD_le lit 257 _
  have hb1 : 1 ≤ nb := by rw [← hnb]; exact uptoD_ge dist 1 _ (by omega)
  have hb2 : nb ≤ 30 := by rw [← hnb, ← hdl]; exact uptoD_le dist 1 _
  have hall : allL lit dist = lit.take na ++ dist.take nb := by unfold allL; rw [hna, hnb]
  rw [hna] at hU1
  rw [hnb] at hU2
  have hai : (na : Int) ≤ (cL : Int) := by omega
  have hbi : (nb : Int) ≤ (cD : Int) := by omega
  have HX := Lib.hid (And.intro ha1 (And.intro ha2 (And.intro hb1 (And.intro hb2 (And.intro hall (And.intro hna hnb))))))
  clear hL hD h8 k8 hll hdl hall hna hnb ha1 ha2 hb1 hb2
  go_enter Try.func33, Try.ntmps33
  go_upto_region 1 with fail
  obtain ⟨W3, hW3⟩ : ∃ W3, (w.alloc (.cells #[.slice aL lit.length cL, .slice aD dist.length cD] 27)).alloc (.cells #[.int .i64 0, .int .i64 0, .int .i64 0, .slice none 0 0, .slice none 0 0, .slice none 0 0] 79) = W3 := ⟨_, rfl⟩
  have f3 : Fr [] w W3 := by rw [← hW3]; exact (Fr.alloc _ _ _).trans (Fr.alloc _ _ _)
  have s3 : W3.heap.size = w.heap.size + 2 := by rw [← hW3]; simp
  have x0 : W3.heap[w.heap.size]? = some (.cells #[.slice aL lit.length cL, .slice aD dist.length cD] 27 (0, 0)) := by
    rw [← hW3]; exact (Fr.alloc [] _ _).blk (alloc_last w _) (by simp)
  have x1 : W3.heap[w.heap.size + 1]? = some (.cells #[.int .i64 0, .int .i64 0, .int .i64 0, .slice none 0 0, .slice none 0 0, .slice none 0 0] 79 (0, 0)) := by
    rw [← hW3]
    have := alloc_last (w.alloc (.cells #[.slice aL lit.length cL, .slice aD dist.length cD] 27)) (.cells #[.int .i64 0, .int .i64 0, .int .i64 0, .slice none 0 0, .slice none 0 0, .slice none 0 0] 79)
    simpa using this
  rw [hW3]
  have HW := Lib.hid (And.intro f3 (And.intro s3 (And.intro x0 x1)))
  have c0 := cell_of x0 0
  have c1 := cell_of x0 1
  simp at c0 c1
  clear hW3 f3 s3 x0 x1
  go_cut [3] from 9 to 15 (fun v3 wx => HdBox W3 na nb v3 wx)
  case first =>
    have n0 := World.new_ne W3 _ c0
    have n1 := World.new_ne W3 _ c1
    have U1 : Hid (∀ W, Fr [] W3 W → Calls Try.prog 57 #[.slice aL lit.length cL, .int .i64 257] W fun e w' => e = .returned (.int .i64 (na : Int)) ∧ w' = W) := Lib.hid (fun W (f : Fr [] W3 W) => hU1.out W (HW.out.1.trans f))
    have U2 : Hid (∀ W, Fr [] W3 W → Calls Try.prog 57 #[.slice aD dist.length cD, .int .i64 1] W fun e w' => e = .returned (.int .i64 (nb : Int)) ∧ w' = W) := Lib.hid (fun W (f : Fr [] W3 W) => hU2.out W (HW.out.1.trans f))
    go_region_held3 (fun w' => w'.cell? ⟨w.heap.size, 0, none⟩ = some (.slice aL lit.length cL) ∧ w'.cell? ⟨w.heap.size, 1, none⟩ = some (.slice aD dist.length cD)) (go_keep) (first | (go_at_call 57; (with_reducible refine (U1.out _ (by first | exact Fr.refl _ _ | exact Fr.drew (Fr.refl _ _) | exact (Fr.alloc _ _ _).drew)).mono ?_); rintro e w' ⟨rfl, rfl⟩) | (go_at_call 57; (with_reducible refine (U2.out _ (by first | exact Fr.refl _ _ | exact Fr.drew (Fr.refl _ _) | exact (Fr.alloc _ _ _).drew)).mono ?_); rintro e w' ⟨rfl, rfl⟩))
    all_goals go_wp2_with fail
    all_goals go_meet
    all_goals (case rel => exact ⟨_, rfl, Nat.le_refl _, alloc_last _ _, (Fr.alloc _ _ _).drew⟩)
  case rest =>
  obtain ⟨hb, rfl, hhb, hHB, hfc⟩ := hcut
  have x0 := hfc.blk HW.out.2.2.1 (by simp)
  have c0 := cell_of x0 0
  have c1 := cell_of x0 1
  have h0 := cell_of hHB 0
  have h1 := cell_of hHB 1
  have h5 := free_of hHB 5
  have h5c := cell_of hHB 5
  simp at c0 c1 h0 h1 h5c
  have HC := Lib.hid (And.intro hfc (And.intro x0 (And.intro hHB hhb)))
  clear x0 hHB hhb hfc
  go_upto_region 2 with fail
  clear hU1 hU2
  go_cut [] from 16 (fun wx => ∃ v, wx.heap[hb]? = some (.cells #[.int .i64 (na : Int), .int .i64 (nb : Int), .int .i64 0, .slice none 0 0, .slice none 0 0, v] 79 (0, 0)) ∧ wx.ownsRow wc.heap.size 119 2 v (rsL lit dist).length ((rsL lit dist).flatMap RunE) ∧ Fr [hb] wc wx)
  case first =>
    have SK := Lib.hid (fun W (f : Fr [] wc W) => (show W.cell? ⟨w.heap.size, 0, none⟩ = some (.slice aL lit.length cL) ∧ W.cell? ⟨w.heap.size, 1, none⟩ = some (.slice aD dist.length cD) ∧ W.cell? ⟨hb, 0, none⟩ = some (.int .i64 (na : Int)) ∧ W.cell? ⟨hb, 1, none⟩ = some (.int .i64 (nb : Int)) from by
      have e0 := cell_of (f.blk HC.out.2.1 (by simp)) 0
      have e1 := cell_of (f.blk HC.out.2.1 (by simp)) 1
      have e2 := cell_of (f.blk HC.out.2.2.1 (by simp)) 0
      have e3 := cell_of (f.blk HC.out.2.2.1 (by simp)) 1
      exact ⟨e0, e1, e2, e3⟩))
    have SK2 := Lib.hid (fun W (v : Value) (f : Fr [] wc W) => (show (W.setCell ⟨hb, 5, none⟩ v).cell? ⟨w.heap.size, 0, none⟩ = some (.slice aL lit.length cL) ∧ (W.setCell ⟨hb, 5, none⟩ v).cell? ⟨w.heap.size, 1, none⟩ = some (.slice aD dist.length cD) ∧ (W.setCell ⟨hb, 5, none⟩ v).cell? ⟨hb, 0, none⟩ = some (.int .i64 (na : Int)) ∧ (W.setCell ⟨hb, 5, none⟩ v).cell? ⟨hb, 1, none⟩ = some (.int .i64 (nb : Int)) from by
      have hne : w.heap.size ∉ [hb] := by have := HC.out.2.2.2; have := HW.out.2.1; simp; omega
      have e0 := cell_of ((Fr.setCell W hb 5 v).blk (f.blk HC.out.2.1 (by simp)) hne) 0
      have e1 := cell_of ((Fr.setCell W hb 5 v).blk (f.blk HC.out.2.1 (by simp)) hne) 1
      have e2 := cell_of (set_of (f.blk HC.out.2.2.1 (by simp)) 5 v) 0
      have e3 := cell_of (set_of (f.blk HC.out.2.2.1 (by simp)) 5 v) 1
      exact ⟨e0, e1, by simpa using e2, by simpa using e3⟩))
    have FW := Lib.hid (HW.out.1.trans HC.out.1)
    have PK : Hid (∀ g c W, W.ownsRow wc.heap.size 5 1 (.slice (some ⟨g, 0, none⟩) (na + nb) c) (na + nb) ((([] : List Value) ++ u8s (lit.take na)) ++ u8s (dist.take nb)) → Calls Try.prog 58 #[.slice (some ⟨g, 0, none⟩) (na + nb) c] W fun e w' => ∃ ao cp, e = .returned (.tuple #[.slice ao (rsL lit dist).length cp, .int .i64 0]) ∧ w'.ownsRow W.heap.size 119 2 (.slice ao (rsL lit dist).length cp) (rsL lit dist).length ((rsL lit dist).flatMap RunE) ∧ Fr [] W w') := Lib.hid (fun g c W hW => by
      obtain ⟨hL, hD, h8, k8, hll, hdl⟩ := HB.out
      obtain ⟨ha1, ha2, hb1, hb2, hall, _⟩ := HX.out
      have hln : (allL lit dist).length = na + nb := by rw [hall, List.length_append, List.length_take, List.length_take]; omega
      have hW2 : W.ownsRow wc.heap.size 5 1 (.slice (some ⟨g, 0, none⟩) (na + nb) c) (na + nb) (u8s (allL lit dist)) := by rw [hall, u8s_append]; exact hW
      have hp := rpack_ok (some ⟨g, 0, none⟩) c (allL lit dist) W (sl_own8 hW2 hln.symm) (by rw [hln]; exact own_cap hW) (by omega) (fun v hv => by
        rw [hall] at hv
        rcases List.mem_append.1 hv with h | h
        · exact h8 v (List.mem_of_mem_take h)
        · exact k8 v (List.mem_of_mem_take h))
      rw [hln] at hp
      refine hp.mono ?_
      rintro e w' ⟨v, rfl, hv, hf⟩
      obtain ⟨ao, cp, rfl⟩ := row_form hv
      exact ⟨ao, cp, rfl, hv, hf⟩)
    have EO := Lib.hid (show ((wc.alloc (.cells #[] 5)).drew).ownsRow wc.heap.size 5 1 (.slice (some ⟨wc.heap.size, 0, none⟩) 0 0) 0 [] from own_empty8 (alloc_last _ _) (Nat.le_refl _))
    have EF := Lib.hid (show Fr [] wc ((wc.alloc (.cells #[] 5)).drew) from (Fr.alloc _ _ _).drew)
    go_region_held3 (fun W => W.cell? ⟨w.heap.size, 0, none⟩ = some (.slice aL lit.length cL) ∧ W.cell? ⟨w.heap.size, 1, none⟩ = some (.slice aD dist.length cD) ∧ W.cell? ⟨hb, 0, none⟩ = some (.int .i64 (na : Int)) ∧ W.cell? ⟨hb, 1, none⟩ = some (.int .i64 (nb : Int)))
      (first | exact SK2.out _ _ HF5.out | exact SK.out _ HF5.out | exact SK.out _ HQ2.out.fr | exact SK.out _ HQ1.out.fr | exact SK.out _ EF.out | exact SK.out _ (Fr.drew (Fr.refl _ _)) | exact SK.out _ (Fr.refl _ _) | exact SK.out _ (Fr.alloc _ _ _))
      (first
        | (refine step_cat8 (o := ⟨some 23, _, _, _, _, _⟩) wc (by rfl) (.tmp 17) (.tmp 22) (by rfl) (.slice (some ⟨wc.heap.size, 0, none⟩) 0 0) 0 [] (by rfl) EO.out EF.out aL na cL lit (by rfl) (HB.out.1.fr0 (FW.out.trans EF.out)) (by have := HX.out.2.1; have := HB.out.2.2.2.2.1; omega) (by have := HX.out.1; omega) na (by omega) (by have := HX.out.2.1; omega) ?_; intro g1 c1 w1 HQ1)
        | (refine step_cat8 (o := ⟨some 29, _, _, _, _, _⟩) wc (by rfl) (.tmp 23) (.tmp 28) (by rfl) _ na _ (by rfl) HQ1.out.own HQ1.out.fr aD nb cD dist (by rfl) (HB.out.2.1.fr0 (FW.out.trans HQ1.out.fr)) (by have := HX.out.2.2.2.1; have := HB.out.2.2.2.2.2; omega) (by have := HX.out.2.2.1; omega) (na + nb) rfl (by have := HX.out.2.2.2.1; have := HX.out.2.1; omega) ?_; intro g2 c2 w2 HQ2)
        | (go_at_call 58; (with_reducible refine (PK.out _ _ _ HQ2.out.own).mono ?_); rintro e w5 ⟨ao, cp, rfl, hv5, hf5⟩; have HF5 := Lib.hid (HQ2.out.fr.trans hf5); have HV5 := Lib.hid hv5; have q5 := cell_of (HF5.out.blk HC.out.2.2.1 (by simp)) 5; have p5 := free_of (HF5.out.blk HC.out.2.2.1 (by simp)) 5; simp at q5; clear hv5 hf5))
    all_goals go_wp2_with fail
    all_goals go_meet
    case rel =>
      have hq := HC.out.2.2.1
      have hl := lt_of hq
      have hs2 := HQ2.out.fr.size
      obtain ⟨ga, hga⟩ : ∃ v, Value.slice ao (rsL lit dist).length cp = v := ⟨_, rfl⟩
      have hV := HV5.out
      rw [hga] at hV ⊢
      have hne : ga.ownBlock ≠ some hb := fun e => by have := (hV.lt hb e).1; omega
      exact ⟨ga, by have := set_of (HF5.out.blk hq (by simp)) 5 ga; simpa using this, ownsRow_setCell_other (a := ⟨hb, 5, none⟩) (ownsRow_base hV hs2) hne ga, HF5.out.nil.trans (Fr.setCell _ _ _ _)⟩
  case rest =>
  obtain ⟨vr, hB2, hrow, hf2⟩ := hcut
  obtain ⟨ar, cr, rfl⟩ := row_form hrow
  have h5 := cell_of hB2 5
  simp at h5
  have hbl := lt_of hB2
  have HR := Lib.hid (And.intro hB2 (And.intro hrow hf2))
  clear hB2 hrow hf2 h0 h1 c0 c1
  go_wp2_with fail
  rw [zc19]
  obtain ⟨V, hV⟩ : ∃ V, wc.alloc (.cells ((List.range 19).map fun j => Value.int .i64 (((fun _ => 0 : Nat → Nat) j : Nat) : Int)).toArray 117) = V := ⟨_, rfl⟩
  have fV : Fr [] wc V := by rw [← hV]; exact Fr.alloc _ _ _
  have nV : Nrow V wc.heap.size 117 .i64 19 (fun _ => 0) := by rw [← hV]; exact alloc_last _ _
  rw [hV]
  obtain ⟨gc, hgc⟩ : ∃ gc, wc.heap.size = gc := ⟨_, rfl⟩
  rw [hgc] at nV ⊢
  have hrl : (rsL lit dist).length ≤ 316 := by
    have h1 := packL_len (allL lit dist)
    obtain ⟨ha1, ha2, hb1, hb2, hall, _⟩ := HX.out
    have h2 : (allL lit dist).length ≤ 316 := by rw [hall, List.length_append, List.length_take, List.length_take]; omega
    unfold rsL; omega
  have hrk : ∀ p ∈ rsL lit dist, RunOk p := packL_ok _ (allL_ok HB.out.2.2.1 HB.out.2.2.2.1)
  obtain ⟨rs, hrs⟩ : ∃ rs, rsL lit dist = rs := ⟨_, rfl⟩
  rw [hrs] at hrl hrk HR h5 ⊢
  have hsr : SlOf RunE 2 wc ar rs := by
    obtain ⟨a0, cap, h1, h2⟩ := slOf_own (enc := RunE) (fun _ => rfl) HR.out.2.1 rfl
    cases h1
    exact h2
  have hrli : (rs.length : Int) ≤ 316 := by omega
  have hglt : hb < gc := by omega
  have HV := Lib.hid (And.intro fV (And.intro nV (And.intro hrl (And.intro hrk (And.intro hrs (And.intro hsr hgc))))))
  clear hV fV nV hgc hrl hrk hrs hsr h5 hbl
  go_loopw [37] (fun v37 wr => ∃ k : Nat, k ≤ rs.length ∧ v37 = .int .i64 (k : Int) ∧ Nrow wr gc 117 .i64 19 (cntR (rs.take k)) ∧ Fr [gc] V wr) (fun v37 _ => rs.length - (intOf v37).toNat)
  case atStart => exact ⟨0, by omega, rfl, HV.out.2.1.congr fun j hj => rfl, Fr.refl _ _⟩
  case round =>
    obtain ⟨k, hk, rfl, hN, hf⟩ := hrel
    by_cases hlt : k < rs.length
    · have hki : (k : Int) < (rs.length : Int) := by omega
      obtain ⟨p, hp⟩ : ∃ p, rs[k]? = some p := ⟨rs[k], List.getElem?_eq_getElem hlt⟩
      have hpm := List.mem_of_getElem? hp
      have hpk := HV.out.2.2.2.1 p hpm
      obtain ⟨b, o, rfl, hbl, hcell⟩ := HV.out.2.2.2.2.2.1 (by intro h; rw [h] at hp; simp at hp)
      have fall : Fr [gc] wc wr := HV.out.1.nil.trans hf
      have hbg : b ∉ [gc] := by have := HV.out.2.2.2.2.2.2; simp; omega
      have e1 : ∀ j, wr.cell? ⟨b, j, none⟩ = wc.cell? ⟨b, j, none⟩ := fun j => by unfold World.cell?; rw [fall.block b hbl hbg]
      have c0 := hcell k p hp 0 (.int .u8 (p.1 : Int)) rfl
      have c1 := hcell k p hp 1 (.int .u8 (p.2 : Int)) rfl
      rw [← e1, Nat.add_zero] at c0
      rw [← e1, ← Nat.add_assoc] at c1
      obtain ⟨p1, p2⟩ := p
      simp only at c0 c1
      have hp1 : p1 < 19 := by have := hpk.1; simp only at this; omega
      have hp1i : (p1 : Int) < 19 := by omega
      have hc1 := hN.cell p1 hp1
      have hz := free_of hN p1
      have hcl := cntR_le (rs.take k) p1
      rw [List.length_take] at hcl
      have HT := Lib.hid (fun i => cntR_take rs k (p1, p2) hp i)
      obtain ⟨T, hT⟩ : ∃ T, cntR (rs.take k) p1 = T := ⟨_, rfl⟩
      rw [hT] at hc1 hcl
      have hTi : (T : Int) ≤ 316 := by have := HV.out.2.2.1; omega
      have hgr := lt_of hN
      have HN := Lib.hid (And.intro hN (And.intro hf hT))
      clear hN hf hT hp hpm hpk hcell e1 hbg fall
      go_wp2_with fail
      obtain ⟨hN, hf, hT⟩ := HN.out
      have s1 := hN.set_ (G := cntR (rs.take (k + 1))) p1 (T + 1) (fun j hj => by rw [HT.out j]; simp only [hT])
      have e1 : ((T + 1 : Nat) : Int) = (T : Int) + 1 := by omega
      rw [e1] at s1
      exact ⟨⟨k + 1, by omega, by go_num, s1.to (Fr.alloc [] _ _) (by simp), hf.trans ((Fr.setCell _ _ _ _).trans (Fr.alloc _ _ _))⟩, by simp [intOf]; omega⟩
    · have hke : k = rs.length := by omega
      subst hke
      rw [List.take_of_length_le (Nat.le_refl _)] at hN
      have hki : ¬ ((rs.length : Int) < (rs.length : Int)) := by omega
      have HL := Lib.hid (lens_few gc 19 19 7 117 (cntR rs) wr hN (by omega) (fun i _ => by have := cntR_le rs i; have := HV.out.2.2.1; omega) (by omega) (by omega) (fun k hk => needN_19 k (by omega)))
      have HN := Lib.hid (And.intro hN hf)
      clear hN hf hk hlt
      go_wp2_with fail
      refine HL.out.mono ?_
      rintro e w5 ⟨ag, rfl, hag, hNg, f5⟩
      have fall : Fr [gc] wc w5 := (HV.out.1.nil.trans HN.out.2).trans f5.nil
      have hgc := HV.out.2.2.2.2.2.2
      have hH := fall.blk HR.out.1 (by simp; omega)
      have h4 := cell_of hH 4
      have h4f := free_of hH 4
      simp at h4
      have HG := Lib.hid (And.intro hag (And.intro hNg (And.intro fall hH)))
      clear hag hNg f5 fall hH HL
      go_wp2_with fail
      refine (order_ok _).mono ?_
      rintro e w6 ⟨rfl, ho6, f6⟩
      have e5 : (w5.setCell ⟨hb, 4, none⟩ (.slice (some ⟨ag, 0, none⟩) 19 19)).heap.size = w5.heap.size := by simp [World.setCell]
      rw [e5] at ho6 ⊢
      have hbw := lt_of HG.out.2.2.2
      have hagw := lt_of HG.out.2.1
      have fs := Fr.setCell w5 hb 4 (.slice (some ⟨ag, 0, none⟩) 19 19)
      have hH6 := f6.blk (set_of HG.out.2.2.2 4 (.slice (some ⟨ag, 0, none⟩) 19 19)) (by simp)
      have hgwr := HN.out.2.size
      have hgV := lt_of HV.out.2.1
      have hagb : ag ≠ hb := by have := HG.out.1; omega
      have hN6 := (HG.out.2.1.to fs (by simpa using hagb)).to f6 (by simp)
      have HO := Lib.hid (And.intro ho6 (And.intro hN6 (And.intro hH6 (And.intro fs (And.intro f6 hagb)))))
      have hw6 := f6.size
      rw [e5] at hw6
      have hbw6 : hb < w6.heap.size := by omega
      clear ho6 f6 h4 h4f hH6 hN6 fs e5 hagb hgwr hgV
      go_wp2_with fail
      go_loopw [56] (fun v56 wr => ∃ (k : Nat) (v : Value), k ≤ 19 ∧ v56 = .int .i64 (k : Int) ∧ wr.heap[hb]? = some (.cells #[.int .i64 (na : Int), .int .i64 (nb : Int), .int .i64 0, v, .slice (some ⟨ag, 0, none⟩) 19 19, .slice ar rs.length cr] 79 (0, 0)) ∧ wr.ownsRow w6.heap.size 5 1 v k (u8s ((ordL lit dist).take k)) ∧ Fr [hb] w6 wr) (fun v56 _ => 19 - (intOf v56).toNat)
      case atStart => exact ⟨0, .slice none 0 0, by omega, rfl, by have := HO.out.2.2.1; simpa using this, World.ownsRow_nil _ _ _ _, Fr.refl _ _⟩
      case round =>
        obtain ⟨k, v, hk, rfl, hH, hrow, hf⟩ := hrel
        by_cases hlt : k < 19
        · have hki : (k : Int) < 19 := by omega
          obtain ⟨s, hs1, hs2, hs3⟩ := order_get k hlt
          have hsi : (s : Int) < 19 := by omega
          have hO := hf.blk HO.out.1 (by simp; omega)
          have oc := cell_of hO k
          rw [hs3] at oc
          have nc := (HO.out.2.1.to hf (by simpa using HO.out.2.2.2.2.2)).cell s hs2
          have h3 := cell_of hH 3
          have h4 := cell_of hH 4
          have h3f := free_of hH 3
          obtain ⟨ao, co, rfl⟩ := row_form hrow
          simp at h3 h4
          have hbr := lt_of hH
          have HT := Lib.hid (ordL_take lit dist k s hs1)
          obtain ⟨y, hy⟩ : ∃ y, ownF lit dist s = y := ⟨_, rfl⟩
          have hy2 : lenS (ctL (cntR rs) 19) 7 s = y := by rw [← hy]; unfold ownF; rw [HV.out.2.2.2.2.1]
          rw [hy2] at nc
          rw [hy] at HT
          have HH := Lib.hid (And.intro hH (And.intro hrow hf))
          clear hO hs1 hs3 hH hrow hf hy hy2
          have hAw : Fr [] wr (wr.alloc (.cells #[.int .u8 (y : Int)] 5)).drew := (Fr.alloc _ _ _).drew
          have hw6r := HH.out.2.2.size
          have R0 := Lib.hid (show ((wr.alloc (.cells #[.int .u8 (y : Int)] 5)).drew).ownsRow w6.heap.size 5 1 (.slice ao k co) k (u8s ((ordL lit dist).take k)) from ownsRow_to HH.out.2.1 hAw (by simp))
          have R1 := Lib.hid (show Below w6.heap.size wr (wr.alloc (.cells #[.int .u8 (y : Int)] 5)).drew from hAw.below.mono hw6r)
          have R2 := Lib.hid (show ((wr.alloc (.cells #[.int .u8 (y : Int)] 5)).drew).heap[wr.heap.size]? = some (.cells #[.int .u8 (y : Int)] 5 (0, 0)) from alloc_last _ _)
          have R3 := Lib.hid (show w6.heap.size ≤ ((wr.alloc (.cells #[.int .u8 (y : Int)] 5)).drew).heap.size by have := hAw.size; omega)
          clear hAw
          go_wp2_with fail
          go_region_law ((refine step_push w6.heap.size wr _ (by rfl) (.tmp 61) (.tmp 67) 25 (by rfl) 5 1 1 u8Elem (.slice ao k co) k _ (by rfl) R0 R1 R3.out #[.int .u8 (y : Int)] wr.heap.size 1 1 (by rfl) R2.out (by rfl) (by rfl) (by omega) (by omega) (by omega) ?_; intro g8 c8 w8 HQ; have q8 := (HQ.out.2.2.1.block hb hbw6).trans HH.out.1; have k3 := cell_of q8 3; have k3f := free_of q8 3; simp at k3; clear q8))
          all_goals go_wp2_with (fail_if_success go_outline)
          all_goals (
            obtain ⟨hrow8, hgr8, hbel8, hge8⟩ := HQ.out
            have s8 := set_of ((hbel8.block hb hbw6).trans HH.out.1) 3 (.slice (some ⟨g8, 0, none⟩) (k + 1) c8)
            refine ⟨⟨k + 1, _, by omega, by go_num, by simpa using s8, ?_, ((fr_below HH.out.2.2 hbel8).trans (Fr.setCell _ _ _ _))⟩, by simp [intOf]; omega⟩
            have r8 := ownsRow_setCell_other hrow8 (a := ⟨hb, 3, none⟩) (by simp [Value.ownBlock]; omega) (.slice (some ⟨g8, 0, none⟩) (k + 1) c8)
            rw [HT.out, u8s_append]
            exact r8)
        · have hke : k = 19 := by omega
          subst hke
          have hln : (ordL lit dist).length = 19 := by unfold ordL; rw [List.length_map]; rfl
          rw [List.take_of_length_le (by omega)] at hrow
          obtain ⟨ao, co, rfl⟩ := row_form hrow
          have h3 := cell_of hH 3
          have h2 := cell_of hH 2
          have h2f := free_of hH 2
          simp at h3 h2
          have hsl : SlOf U8 1 wr ao (ordL lit dist) := sl_own8 hrow hln.symm
          have hbr := lt_of hH
          have HUP := Lib.hid (bupto_ok ao co (ordL lit dist) 4 wr hsl (by omega) (fun x hx => by have := ordL_le lit dist x hx; omega))
          rw [hln] at HUP
          have HUP2 : Hid (Calls Try.prog 57 #[.slice ao 19 co, .int .i64 4] wr fun e w' => e = .returned (.int .i64 ((uptoL (ordL lit dist) 4 : Nat) : Int)) ∧ w' = wr) := HUP
          have h0 := cell_of hH 0
          have h1 := cell_of hH 1
          have h4 := cell_of hH 4
          have h5 := cell_of hH 5
          simp at h0 h1 h4 h5
          have hhb : w.heap.size + 2 ≤ hb := by have := HC.out.2.2.2; have := HW.out.2.1; omega
          have hgc := HV.out.2.2.2.2.2.2
          have F1 : Fr [hb, gc] W3 wr := by
            have a1 : Fr [hb, gc] W3 _ := HC.out.1.nil
            have a2 := a1.trans (HR.out.2.2.mono (by simp))
            have a3 := a2.trans (HG.out.2.2.1.mono (by simp))
            have a4 := a3.trans (HO.out.2.2.2.1.mono (by simp))
            have a5 := a4.trans HO.out.2.2.2.2.1.nil
            exact a5.trans (hf.mono (by simp))
          have hR := F1.blk HW.out.2.2.2 (by simp; omega)
          have r0 := cell_of hR 0
          have r1 := cell_of hR 1
          have r2 := cell_of hR 2
          have r3 := cell_of hR 3
          have r4 := cell_of hR 4
          have r5 := cell_of hR 5
          have g0 := free_of hR 0
          have g1 := free_of hR 1
          have g2 := free_of hR 2
          have g3 := free_of hR 3
          have g4 := free_of hR 4
          have g5 := free_of hR 5
          simp at r0 r1 r2 r3 r4 r5
          obtain ⟨kl, hkl⟩ : ∃ kl, uptoL (ordL lit dist) 4 = kl := ⟨_, rfl⟩
          rw [hkl] at HUP2
          have hne1 : hb ≠ w.heap.size + 1 := by omega
          have HH := Lib.hid (And.intro hH (And.intro hrow (And.intro hf (And.intro hsl (And.intro F1 (And.intro hR (And.intro hhb (And.intro hgc hkl))))))))
          clear hH hrow hf hsl F1 hR hhb hgc hkl
          go_wp2_with fail
          refine HUP2.out.mono ?_
          rintro e w9 ⟨rfl, hw9⟩
          replace hw9 := hw9.symm
          subst hw9
          clear HUP HUP2
          go_wp2_with fail
          obtain ⟨hH, hrow, hf, hsl, F1, hR, hhb, hgc, hkl⟩ := HH.out
          have fh : Fr [hb] wr (wr.setCell ⟨hb, 2, none⟩ (.int .i64 (kl : Int))) := Fr.setCell _ _ _ _
          have hR1 := fh.blk hR (by simp; omega)
          obtain ⟨hR6, f6⟩ := set6 (.int .i64 (na : Int)) (.int .i64 (nb : Int)) (.int .i64 (kl : Int)) (.slice ao 19 co) (.slice (some ⟨ag, 0, none⟩) 19 19) (.slice ar rs.length cr) hR1
          have FA : Fr [hb, w.heap.size + 1] wr _ := (fh.mono (by simp)).trans (f6.mono (by simp))
          (try simp only [Exit.inBlock, Exit.then])
          refine bodyPost_ret (results_cell_row rfl _ _ (w.heap.size + 1) 79 _ _ _ rfl hR6 Try.underlying79 rfl (by kernel_rfl)) rfl ?_
          obtain ⟨_, _, _, _, _, hna, hnb⟩ := HX.out
          rw [hna, hnb, hkl, HV.out.2.2.2.2.1]
          have hc0 := HC.out.2.2.2
          have hw3 := HW.out.2.1
          have hzr := HR.out.2.1
          have hhw := lt_of HC.out.2.2.1
          have hw6 : hb < w6.heap.size := hbw6
          have hlR := lt_of hR
          have hgw := HG.out.1
          have hsw5 := lt_of HG.out.2.2.2
          have hres : w.heap.size + 1 < w6.heap.size := by omega
          refine ⟨ao, co, ag, ar, cr, rfl, ⟨?_, ?_, ?_, ?_, ?_, ?_⟩, ?_, row_cap hrow⟩
          · exact hsl.fr FA fun a ha hm => by
              subst ha
              have h9 := own_blkE hrow
              simp at hm
              omega
          · have h9 := (HO.out.2.1.to hf (by simpa using HO.out.2.2.2.2.2)).to FA (by simp; exact ⟨HO.out.2.2.2.2.2, by have := HV.out.1.size; have := HN.out.2.size; omega⟩)
            refine h9.congr fun j hj => ?_
            unfold ownF
            rw [HV.out.2.2.2.2.1]
          · have F2 : Fr [hb, gc, w.heap.size + 1] wc _ := ((((HG.out.2.2.1.mono (by simp)).trans (HO.out.2.2.2.1.mono (by simp))).trans HO.out.2.2.2.2.1.nil).trans (hf.mono (by simp))).trans (FA.mono (by simp))
            rw [HV.out.2.2.2.2.1]
            refine HV.out.2.2.2.2.2.1.fr F2 fun a ha hm => ?_
            subst ha
            have h9 := own_blkE hzr
            have h10 := (hzr.lt a.block (by simp [Value.ownBlock])).2
            simp at hm
            omega
          · intro a ha
            subst ha
            have h9 := own_blkE hrow
            omega
          · have := HV.out.1.size; have := HN.out.2.size; omega
          · intro a ha
            subst ha
            have h9 := own_blkE hzr
            omega
          · refine FA.outL (F1.outL HW.out.1 (by simp; omega)) (by simp; omega)
end Go.Proofs.Ytciejmlhdmjajaa

