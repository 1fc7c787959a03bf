/- platenref06's leaf and both. platenref06's next: the row of the next level. -/
import Derived.Test.YtciejmlhdmjajaaKQc
import Derived.Deep.RegionHeld3
namespace Go.Proofs.Ytciejmlhdmjajaa
open Go.RowKit
set_option linter.unusedVariables false
set_option linter.unusedSimpArgs false

/-- A reference's thing, as a value. -/
def rv (wg g n : Nat) : Value := .agg #[.int .i64 (wg : Int), .slice (some ⟨g, 0, none⟩) n n]
set_option maxRecDepth 2000000 in
set_option maxHeartbeats 3200000 in
theorem leaf_any (wg k n : Nat) (w : World) (hw : wg ≤ 1073741824) (hk : k < n) (hn : n ≤ 320) :
    Calls Try.prog 55 #[.int .i64 (wg : Int), .int .i64 (k : Int), .int .i64 (n : Int)] w fun e w' => ∃ g, e = .returned (rv wg g n) ∧ w.heap.size ≤ g ∧ Nrow w' g 5 .u8 n (fun i => if i = k then 1 else 0) ∧ Fr [] w w' := by
  have h1 : (wg : Int) ≤ 1073741824 := by omega
  have h2 : (k : Int) < (n : Int) := by omega
  have h3 : (n : Int) ≤ 320 := by omega
  have hmk := fun W => run_make_bytes W n (by omega)
  have sz1 : (w.alloc (.cells #[.int .i64 0, .slice none 0 0] 111)).heap.size = w.heap.size + 1 := Array.size_push _
  have hA := Fr.alloc [] ((w.alloc (.cells #[.int .i64 0, .slice none 0 0] 111)).alloc (.cells (Lib.byteCells (List.replicate n 0)).toArray 5)) (.cells #[.int .i64 (wg : Int), .slice (some ⟨w.heap.size + 1, 0, none⟩) n n] 111)
  have hM := made_row (w.alloc (.cells #[.int .i64 0, .slice none 0 0] 111)) n
  rw [sz1] at hM
  have hN := hM.to hA (by simp)
  have d0 := hN.cell k hk
  have fz := free_of hN k
  have hO := made_one (w.alloc (.cells #[.int .i64 (wg : Int), .slice (some ⟨w.heap.size + 1, 0, none⟩) n n] 111)) n k
  rw [show (w.alloc (.cells #[.int .i64 (wg : Int), .slice (some ⟨w.heap.size + 1, 0, none⟩) n n] 111)).heap.size = w.heap.size + 1 from Array.size_push _] at hO
  have hO2 := hO.to (Fr.alloc [] _ (.cells #[.int .i64 (wg : Int), .slice (some ⟨w.heap.size + 1, 0, none⟩) n n] 111)) (by simp)
  have HO := Lib.hid hO2
  clear hw hn hA hM hN hO hO2 sz1
  go_enter Try.func55, Try.ntmps55
  go_wp2_with fail
  refine bodyPost_ret (v := rv wg (w.heap.size + 1) n) (by simp [results, Try.results55, go_sem, rv]) rfl ⟨w.heap.size + 1, rfl, by omega, HO.out, ((Fr.alloc [] _ _).trans (Fr.alloc [] _ _)).trans (Fr.alloc [] _ _)⟩
/-- The sum of two rows of numbers of a byte each. -/
def addV (A B : Nat → Nat) (i : Nat) : Nat := (A i + B i) % 256
/-- Behind the first statement: the new thing, its row of noughts. -/
def BothM (W3 : World) (wz n : Nat) (v5 : Value) (wx : World) : Prop :=
  ∃ gv gt, v5 = .pointer (some ⟨gt, 0, none⟩) ∧ wx.heap[gt]? = some (.cells #[.int .i64 (wz : Int), .slice (some ⟨gv, 0, none⟩) n n] 111 (0, 0)) ∧ Nrow wx gv 5 .u8 n (fun _ => 0) ∧ W3.heap.size ≤ gv ∧ W3.heap.size ≤ gt ∧ gt ≠ gv ∧ Fr [] W3 wx
theorem bothM_a (W3 : World) (wz n : Nat) : BothM W3 wz n (.pointer (some ⟨W3.heap.size + 1, 0, none⟩)) ((W3.alloc (.cells (Lib.byteCells (List.replicate n 0)).toArray 5)).alloc (.cells #[.int .i64 (wz : Int), .slice (some ⟨W3.heap.size, 0, none⟩) n n] 111)).drew := by
  have h1 := (made_row W3 n).to (Fr.alloc [] _ (.cells #[.int .i64 (wz : Int), .slice (some ⟨W3.heap.size, 0, none⟩) n n] 111)) (by simp)
  have h2 := new_of (W3.alloc (.cells (Lib.byteCells (List.replicate n 0)).toArray 5)) (.cells #[.int .i64 (wz : Int), .slice (some ⟨W3.heap.size, 0, none⟩) n n] 111)
  rw [show (W3.alloc (.cells (Lib.byteCells (List.replicate n 0)).toArray 5)).heap.size = W3.heap.size + 1 from Array.size_push _] at h2
  exact ⟨W3.heap.size, W3.heap.size + 1, rfl, h2, h1.to (l := []) (Fr.drew (Fr.refl [] _)) (by simp), by omega, by omega, by omega, ((Fr.alloc [] _ _).trans (Fr.alloc [] _ _)).drew⟩
theorem bothM_b (W3 : World) (wz n : Nat) : BothM W3 wz n (.pointer (some ⟨W3.heap.size, 0, none⟩)) ((W3.alloc (.cells #[.int .i64 (wz : Int), .slice (some ⟨W3.heap.size + 1, 0, none⟩) n n] 111)).alloc (.cells (Lib.byteCells (List.replicate n 0)).toArray 5)).drew := by
  have h1 := made_row (W3.alloc (.cells #[.int .i64 (wz : Int), .slice (some ⟨W3.heap.size + 1, 0, none⟩) n n] 111)) n
  rw [show (W3.alloc (.cells #[.int .i64 (wz : Int), .slice (some ⟨W3.heap.size + 1, 0, none⟩) n n] 111)).heap.size = W3.heap.size + 1 from Array.size_push _] at h1
  have h2 := (Fr.alloc [] _ (.cells (Lib.byteCells (List.replicate n 0)).toArray 5)).drew.blk (new_of W3 (.cells #[.int .i64 (wz : Int), .slice (some ⟨W3.heap.size + 1, 0, none⟩) n n] 111)) (by simp)
  exact ⟨W3.heap.size + 1, W3.heap.size, rfl, h2, h1.to (l := []) (Fr.drew (Fr.refl [] _)) (by simp), by omega, by omega, by omega, ((Fr.alloc [] _ _).trans (Fr.alloc [] _ _)).drew⟩
set_option maxRecDepth 2000000 in
set_option maxHeartbeats 3200000 in
theorem both_any (wa ga wb gb n : Nat) (A B : Nat → Nat) (w : World) (hw : wa + wb ≤ 100000000000000) (hn : n ≤ 320) (hA : Nrow w ga 5 .u8 n A) (hB : Nrow w gb 5 .u8 n B) (hAb : ∀ i, i < n → A i ≤ 255) (hBb : ∀ i, i < n → B i ≤ 255) :
    Calls Try.prog 80 #[rv wa ga n, rv wb gb n] w fun e w' => ∃ g, e = .returned (rv (wa + wb) g n) ∧ w.heap.size ≤ g ∧ Nrow w' g 5 .u8 n (addV A B) ∧ Fr [] w w' := by
  obtain ⟨wz, hz⟩ : ∃ wz, wa + wb = wz := ⟨_, rfl⟩
  have ez : (wa : Int) + (wb : Int) = (wz : Int) := by omega
  have h1 : (wz : Int) ≤ 100000000000000 := by omega
  have h3 : (n : Int) ≤ 320 := by omega
  have hwz : IntKind.i64.wrap (wz : Int) = (wz : Int) := IntWalk.i64_in _ (by omega)
  have hmk := fun W => run_make_bytes W n (by omega)
  rw [hz]
  have HX := Lib.hid (And.intro hA (And.intro hB (And.intro hAb hBb)))
  have hga := lt_of hA
  have hgb := lt_of hB
  clear hz hw hn hA hB hAb hBb
  unfold rv
  go_enter Try.func80, Try.ntmps80
  go_wp2_with fail
  obtain ⟨W3, hW3⟩ : ∃ W3, ((w.alloc (.cells #[.int .i64 (wa : Int), .slice (some ⟨ga, 0, none⟩) n n] 111)).alloc (.cells #[.int .i64 (wb : Int), .slice (some ⟨gb, 0, none⟩) n n] 111)).alloc (.cells #[.int .i64 0, .slice none 0 0] 111) = W3 := ⟨_, rfl⟩
  rw [hW3]
  have hF : Fr [] w W3 := by rw [← hW3]; exact ((Fr.alloc [] _ _).trans (Fr.alloc [] _ _)).trans (Fr.alloc [] _ _)
  have sz3 : W3.heap.size = w.heap.size + 3 := by rw [← hW3]; simp
  have kA : W3.heap[w.heap.size]? = some (.cells #[.int .i64 (wa : Int), .slice (some ⟨ga, 0, none⟩) n n] 111) := by rw [← hW3]; exact ((Fr.alloc [] _ _).trans (Fr.alloc [] _ _)).blk (new_of w _) (by simp)
  have kB : W3.heap[w.heap.size + 1]? = some (.cells #[.int .i64 (wb : Int), .slice (some ⟨gb, 0, none⟩) n n] 111) := by
    rw [← hW3]
    have := new_of (w.alloc (.cells #[.int .i64 (wa : Int), .slice (some ⟨ga, 0, none⟩) n n] 111)) (.cells #[.int .i64 (wb : Int), .slice (some ⟨gb, 0, none⟩) n n] 111)
    rw [show (w.alloc (.cells #[.int .i64 (wa : Int), .slice (some ⟨ga, 0, none⟩) n n] 111)).heap.size = w.heap.size + 1 from Array.size_push _] at this
    exact (Fr.alloc [] _ _).blk this (by simp)
  have kZ : W3.heap[w.heap.size + 2]? = some (.cells #[.int .i64 0, .slice none 0 0] 111) := by
    rw [← hW3]
    have := new_of ((w.alloc (.cells #[.int .i64 (wa : Int), .slice (some ⟨ga, 0, none⟩) n n] 111)).alloc (.cells #[.int .i64 (wb : Int), .slice (some ⟨gb, 0, none⟩) n n] 111)) (.cells #[.int .i64 0, .slice none 0 0] 111)
    rw [show ((w.alloc (.cells #[.int .i64 (wa : Int), .slice (some ⟨ga, 0, none⟩) n n] 111)).alloc (.cells #[.int .i64 (wb : Int), .slice (some ⟨gb, 0, none⟩) n n] 111)).heap.size = w.heap.size + 2 by simp] at this
    exact this
  have c0 := cell_of kA 0
  have c1 := cell_of kA 1
  have c2 := cell_of kB 0
  simp at c0 c1 c2
  have HK := Lib.hid (And.intro hF (And.intro sz3 (And.intro kA (And.intro kB kZ))))
  clear hW3 hF sz3 kA kB kZ
  have n0 := World.new_ne W3 _ c0
  have n1 := World.new_ne W3 _ c1
  have n2 := World.new_ne W3 _ c2
  go_cut [5] from 7 to 16 (fun v5 wx => BothM W3 wz n v5 wx)
  case first =>
    go_region_held3 (fun w' => w'.cell? ⟨w.heap.size, 0, none⟩ = some (.int .i64 (wa : Int)) ∧ w'.cell? ⟨w.heap.size + 1, 0, none⟩ = some (.int .i64 (wb : Int)) ∧ w'.cell? ⟨w.heap.size, 1, none⟩ = some (.slice (some ⟨ga, 0, none⟩) n n)) (go_keep) (fail)
    all_goals go_wp2_with fail
    all_goals go_meet
    case rel => exact bothM_a W3 wz n
    case rel => exact bothM_b W3 wz n
  case rest =>
  obtain ⟨gv, gt, rfl, hgt, hNv, hgv3, hgt3, hne, hfc⟩ := hcut
  have HC := Lib.hid (And.intro hgt (And.intro hNv (And.intro hgv3 (And.intro hgt3 (And.intro hne hfc)))))
  clear hgt hNv hgv3 hgt3 hne hfc n0 n1 n2 c0 c1 c2 hmk
  go_wp2_with fail
  go_loopw [6] (fun v6 wr => ∃ i : Nat, v6 = .int .i64 (i : Int) ∧ i ≤ n ∧ Hid (Nrow wr gv 5 .u8 n (fun s => if s < i then addV A B s else 0)) ∧ Fr [gv] wc wr) (fun v6 _ => n - (intOf v6).toNat)
  case atStart => exact ⟨0, rfl, Nat.zero_le _, Lib.hid (HC.out.2.1.congr fun s _ => by simp), Fr.refl _ _⟩
  case round =>
    obtain ⟨i, rfl, hi, hN, hf⟩ := hrel
    have hgw : w.heap.size + 3 ≤ gv := by have := HC.out.2.2.1; have := HK.out.2.1; omega
    have bA := hf.blk (HC.out.2.2.2.2.2.blk HK.out.2.2.1 (by simp)) (by simp; omega)
    have bB := hf.blk (HC.out.2.2.2.2.2.blk HK.out.2.2.2.1 (by simp)) (by simp; omega)
    have bT := hf.blk HC.out.1 (by simpa using HC.out.2.2.2.2.1)
    have c1 := cell_of bA 1
    have c2 := cell_of bB 1
    have c3 := cell_of bT 1
    simp at c1 c2 c3
    by_cases hin : i < n
    · have hii : (i : Int) < (n : Int) := by omega
      have rA := ((HX.out.1.to (HK.out.1.trans HC.out.2.2.2.2.2) (by simp)).to hf (by simp; omega)).cell i hin
      have rB := ((HX.out.2.1.to (HK.out.1.trans HC.out.2.2.2.2.2) (by simp)).to hf (by simp; omega)).cell i hin
      have rV := hN.out.cell i hin
      have fz := free_of hN.out i
      have hglt := lt_of hN.out
      simp only [Nat.lt_irrefl, if_false] at rV
      obtain ⟨x, hx⟩ : ∃ x, A i = x := ⟨_, rfl⟩
      obtain ⟨y, hy⟩ : ∃ y, B i = y := ⟨_, rfl⟩
      obtain ⟨z, hz⟩ : ∃ z, (x + y) % 256 = z := ⟨_, rfl⟩
      have hxb : (x : Int) ≤ 255 := by have := HX.out.2.2.1 i hin; omega
      have hyb : (y : Int) ≤ 255 := by have := HX.out.2.2.2 i hin; omega
      rw [hx] at rA
      rw [hy] at rB
      have e1 : ((x : Int) + (y : Int)) % 256 = (z : Int) := by omega
      have hset := hN.out.set_ (G := fun s => if s < i + 1 then addV A B s else 0) i z (fun s _ => by
        by_cases h : s = i
        · subst h; simp [addV, hx, hy, hz]
        · simp only [if_neg h]
          by_cases h2 : s < i
          · rw [if_pos h2, if_pos (by omega)]
          · rw [if_neg h2, if_neg (by omega)])
      have HS := Lib.hid (And.intro hset hf)
      clear hset hf hN hx hy hz bA bB bT
      go_wp2_with fail
      refine wp_region_quiet_tail 15 (by kernel_rfl) (by kernel_rfl) ?_
      simp only [List.take_succ_cons, List.take_zero, List.drop_succ_cons, List.drop_zero]
      repeat go_big_quiet_step (fail)
      refine wpQuiet_nil ?_
      go_wp2_with fail
      exact ⟨⟨i + 1, by go_num, by omega, Lib.hid (HS.out.1.to (l := []) (Fr.drew (Fr.refl [] _)) (by simp)), HS.out.2.trans (Fr.drew (Fr.setCell _ _ _ _))⟩, by simp [intOf]; omega⟩
    · have hie : i = n := by omega
      have hid : decide (i < n) = false := by simp; omega
      have bZ := hf.blk (HC.out.2.2.2.2.2.blk HK.out.2.2.2.2 (by simp)) (by simp; omega)
      have c4 := cell_of bT 0
      have z0 := cell_of bZ 0
      have z1 := cell_of bZ 1
      have fz0 := free_of bZ 0
      have fz1 := free_of bZ 1
      have hzlt := lt_of bZ
      have hgtz : gt ≠ w.heap.size + 2 := by have := HC.out.2.2.2.1; have := HK.out.2.1; omega
      have hset := set_of (set_of bZ 0 (.int .i64 (wz : Int))) 1 (.slice (some ⟨gv, 0, none⟩) n n)
      have r0 := cell_of hset 0
      have r1 := cell_of hset 1
      have HF := Lib.hid (And.intro hN (And.intro hf hie))
      simp at c4 z0 z1 r0 r1
      have R0 := Lib.hid r0
      have R1 := Lib.hid r1
      clear bA bB bZ hset hN hf hie hi
      clear r0 r1
      go_wp2_with fail
      have q0 : ((wr.setCell ⟨w.heap.size + 1 + 1, 0, none⟩ (.int .i64 (wz : Int))).setCell ⟨w.heap.size + 1 + 1, 1, none⟩ (.slice (some ⟨gv, 0, none⟩) n n)).cell? ⟨w.heap.size + 1 + 1, 0, none⟩ = some (.int .i64 (wz : Int)) := R0.out
      have q1 : ((wr.setCell ⟨w.heap.size + 1 + 1, 0, none⟩ (.int .i64 (wz : Int))).setCell ⟨w.heap.size + 1 + 1, 1, none⟩ (.slice (some ⟨gv, 0, none⟩) n n)).cell? ⟨w.heap.size + 1 + 1, 1, none⟩ = some (.slice (some ⟨gv, 0, none⟩) n n) := R1.out
      obtain ⟨hN, hf, hie⟩ := HF.out
      have hsz := HC.out.2.2.2.2.2.size
      have hgw2 := HC.out.2.2.1
      have hsz3 := HK.out.2.1
      refine bodyPost_ret (v := rv wz gv n) (by simp [results, Try.results80, go_sem, q0, q1, rv]) rfl ⟨gv, rfl, by omega, ?_, ?_⟩
      · refine (((hN.out.congr fun s hs => ?_).to (Fr.setCell wr _ 0 _) ?_).to (Fr.setCell _ _ 1 _) ?_)
        · rw [if_pos (by omega)]
        · simp; omega
        · simp; omega
      · have hG := (hf.outL (HK.out.1.trans HC.out.2.2.2.2.2) (fun j hj => .inr (by simp at hj; omega)) : Fr [] w wr)
        exact ((Fr.setCell wr (w.heap.size + 1 + 1) 0 _).trans (Fr.setCell _ _ 1 _)).outL hG (fun j hj => .inr (by simp at hj; omega))
end Go.Proofs.Ytciejmlhdmjajaa
namespace Go.Proofs.Ytciejmlhdmjajaa
open Go.RowKit
set_option linter.unusedVariables false
set_option linter.unusedSimpArgs false

theorem elemV : Elem Try.prog 109 111 2 32 := by
  refine ⟨Try.underlying109, ?_⟩
  obtain ⟨i0, hi, hz0, hz1, hz2⟩ := info_parts (show (Try.prog.info? 111).map (fun i => (i.zero, i.size, i.bytes)) = some (some (.agg #[.int .i64 0, .slice none 0 0]), 2, 32) by kernel_rfl)
  exact ⟨i0, _, hi, hz0, hz1, hz2, rfl, by decide⟩
def Tv (wg g n : Nat) : List Value := [.int .i64 (wg : Int), .slice (some ⟨g, 0, none⟩) n n]
/-- How often each leaf is in a thing. -/
def vecP (sy : Nat → Nat) (p : PT) (i : Nat) : Nat := occ p (sy i) % 256
theorem vecP_node (sy : Nat → Nat) (a b : PT) : vecP sy (.node a b) = addV (vecP sy a) (vecP sy b) := by
  funext i
  unfold vecP addV
  simp only [occ]
  exact Nat.add_mod _ _ _
theorem vecP_le (sy : Nat → Nat) (p : PT) (i : Nat) : vecP sy p i ≤ 255 := by unfold vecP; omega
def d0 : Nat × PT := (0, .leaf 0)
def rowCells (n : Nat) (R : List (Nat × PT)) (G : Nat → Nat) : List Value := (List.range R.length).flatMap fun k => Tv (R.getD k d0).1 (G k) n
/-- A row of the reference's things, a call's own. -/
def Vrow (w : World) (B : Nat) (v : Value) (n : Nat) (sy : Nat → Nat) (R : List (Nat × PT)) : Prop :=
  ∃ G : Nat → Nat, w.ownsRow B 111 2 v R.length (rowCells n R G) ∧ ∀ k, k < R.length → Nrow w (G k) 5 .u8 n (vecP sy (R.getD k d0).2)
theorem Vrow.nil (w : World) (B n : Nat) (sy : Nat → Nat) : Vrow w B (.slice none 0 0) n sy [] := ⟨fun _ => 0, World.ownsRow_nil _ _ _ _, fun k hk => by simp at hk⟩
theorem vecs_grown {w w' : World} {B : Nat} {v : Value} {n : Nat} {xs : List Value} (h : w.ownsRow B 111 2 v n xs) (hg : w.grownBy w' v.ownBlock) {g N : Nat} {F : Nat → Nat} (hc : Nrow w g 5 .u8 N F) : Nrow w' g 5 .u8 N F := by
  have hc' := hc
  unfold Nrow at hc ⊢
  rw [hg.block g (lt_of hc) ?_, hc]
  intro he
  rcases h.2 with ⟨rfl, _⟩ | ⟨g', cap, cur, rfl, hb, hh, _⟩
  · simp [Value.ownBlock] at he
  · simp [Value.ownBlock] at he
    subst he
    rw [hc] at hh
    simp at hh
theorem Vrow.to {w w' : World} {B : Nat} {v : Value} {n : Nat} {sy : Nat → Nat} {R : List (Nat × PT)} (h : Vrow w B v n sy R) (f : Fr [] w w') : Vrow w' B v n sy R := by
  obtain ⟨G, h1, h2⟩ := h
  exact ⟨G, ownsRow_to h1 f (by simp), fun k hk => (h2 k hk).to f (by simp)⟩
/-- Another row of things is appended to. -/
theorem Vrow.grow {w w' : World} {B B' : Nat} {v v' : Value} {n m : Nat} {sy : Nat → Nat} {R : List (Nat × PT)} {xs : List Value} (h : Vrow w B v n sy R) (h' : w.ownsRow B' 111 2 v' m xs) (hg : w.grownBy w' v'.ownBlock) (hne : v.ownBlock = none ∨ v.ownBlock ≠ v'.ownBlock) : Vrow w' B v n sy R := by
  obtain ⟨G, h1, h2⟩ := h
  exact ⟨G, h1.kept hg hne, fun k hk => vecs_grown h' hg (h2 k hk)⟩
theorem rowCells_snoc (n : Nat) (R : List (Nat × PT)) (x : Nat × PT) (G : Nat → Nat) (g : Nat) : rowCells n (R ++ [x]) (fun k => if k = R.length then g else G k) = rowCells n R G ++ Tv x.1 g n := by
  unfold rowCells
  rw [List.length_append, List.length_cons, List.length_nil, Nat.zero_add, List.range_succ, List.flatMap_append]
  congr 1
  · have : ∀ l : List Nat, (∀ k ∈ l, k < R.length) → l.flatMap (fun k => Tv ((R ++ [x]).getD k d0).1 (if k = R.length then g else G k) n) = l.flatMap fun k => Tv (R.getD k d0).1 (G k) n := by
      intro l
      induction l with
      | nil => intro _; rfl
      | cons k l ih =>
        intro h
        have hk := h k (by simp)
        rw [List.flatMap_cons, List.flatMap_cons, ih (fun j hj => h j (by simp [hj])), if_neg (by omega)]
        congr 2
        rw [List.getD_eq_getElem?_getD, List.getElem?_append_left hk, ← List.getD_eq_getElem?_getD]
    exact this _ fun k hk => List.mem_range.1 hk
  · simp [List.getD_eq_getElem?_getD]
theorem Vrow.snoc {w : World} {B : Nat} {v : Value} {n g : Nat} {sy : Nat → Nat} {R : List (Nat × PT)} {x : Nat × PT} {G : Nat → Nat} (h1 : w.ownsRow B 111 2 v (R.length + 1) (rowCells n R G ++ Tv x.1 g n)) (h2 : ∀ k, k < R.length → Nrow w (G k) 5 .u8 n (vecP sy (R.getD k d0).2)) (h3 : Nrow w g 5 .u8 n (vecP sy x.2)) : Vrow w B v n sy (R ++ [x]) := by
  refine ⟨fun k => if k = R.length then g else G k, ?_, fun k hk => ?_⟩
  · rw [rowCells_snoc, List.length_append]; exact h1
  · simp only
    rw [List.length_append, List.length_cons, List.length_nil] at hk
    by_cases e : k = R.length
    · rw [if_pos e, e]
      simpa [List.getD_eq_getElem?_getD] using h3
    · rw [if_neg e]
      have := h2 k (by omega)
      rw [List.getD_eq_getElem?_getD, List.getElem?_append_left (by omega), ← List.getD_eq_getElem?_getD]
      exact this
theorem rowCells_get {n : Nat} {R : List (Nat × PT)} {G : Nat → Nat} {k j : Nat} (hk : k < R.length) (hj : j < 2) : (rowCells n R G)[k * 2 + j]? = (Tv (R.getD k d0).1 (G k) n)[j]? := by
  unfold rowCells
  obtain ⟨u, hu⟩ : ∃ u, (Tv (R.getD k d0).1 (G k) n)[j]? = some u := ⟨(Tv (R.getD k d0).1 (G k) n)[j]'(by simpa [Tv] using hj), List.getElem?_eq_getElem _⟩
  rw [hu]
  exact flatMap_get (enc := fun k => Tv (R.getD k d0).1 (G k) n) (sz := 2) (l := List.range R.length) (x := k) (fun x => rfl) (List.getElem?_range hk) hj hu
theorem vrow_cell {w : World} {B g cap n : Nat} {R : List (Nat × PT)} {G : Nat → Nat} (h : w.ownsRow B 111 2 (.slice (some ⟨g, 0, none⟩) R.length cap) R.length (rowCells n R G)) (k : Nat) (hk : k < R.length) :
    w.cell? ⟨g, k * 2, none⟩ = some (.int .i64 ((R.getD k d0).1 : Int)) ∧ w.cell? ⟨g, k * 2 + 1, none⟩ = some (.slice (some ⟨G k, 0, none⟩) n n) := by
  have h0 := h.cells (g := g) rfl (k * 2 + 0) _ (rowCells_get hk (by omega))
  have h1 := h.cells (g := g) rfl (k * 2 + 1) _ (rowCells_get hk (by omega))
  rw [add_none, Nat.zero_add] at h0 h1
  exact ⟨h0, h1⟩
theorem vown_lt {w : World} {B g cap n : Nat} {xs : List Value} (h : w.ownsRow B 111 2 (.slice (some ⟨g, 0, none⟩) n cap) n xs) : g < w.heap.size := (h.lt g rfl).2
end Go.Proofs.Ytciejmlhdmjajaa

