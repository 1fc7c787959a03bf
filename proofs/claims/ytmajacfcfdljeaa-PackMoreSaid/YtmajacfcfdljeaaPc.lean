/- meet: each leaf of a package lengthens its symbol's code by one. -/
import Derived.Test.YtmajacfcfdljeaaPb
import Derived.Test.YtmajacfcfdljeaaHh
namespace Go.Proofs.Ytmajacfcfdljeaa
open Go.RowKit
set_option linter.unusedVariables false
set_option linter.unusedSimpArgs false

/-- What a thing is made of. -/
inductive PT where
  | leaf (s : Nat)
  | node (a b : PT)
def occ : PT → Nat → Nat
  | .leaf s, k => if k = s then 1 else 0
  | .node a b, k => occ a k + occ b k
/-- A thing in memory, whose packages lie in blocks other than gl. -/
def Tree (w : World) (gl : Nat) : PT → Th → Prop
  | .leaf s, t => t.two = none ∧ t.s = s
  | .node a b, t => ∃ (g : Nat) (x y : Th), t.two = some ⟨g, 0, none⟩ ∧ g ≠ gl ∧ w.heap[g]? = some (.cells (Te x ++ Te y).toArray 50 (0, 0)) ∧ Tree w gl a x ∧ Tree w gl b y
theorem Tree.to {w w' : World} {gl : Nat} (f : Fr [gl] w w') : ∀ (p : PT) (t : Th), Tree w gl p t → Tree w' gl p t
  | .leaf s, t, h => h
  | .node a b, t, h => by
    obtain ⟨g, x, y, h1, h2, h3, h4, h5⟩ := h
    exact ⟨g, x, y, h1, h2, f.blk h3 (by simpa using h2), Tree.to f a x h4, Tree.to f b y h5⟩
/-- Where the boxes of packages stay, things are what they were. -/
theorem Tree.grow {w w' : World} {gl : Nat} (f : ∀ (g : Nat) (cs : Array Value), w.heap[g]? = some (.cells cs 50 (0, 0)) → w'.heap[g]? = some (.cells cs 50 (0, 0))) : ∀ (p : PT) (t : Th), Tree w gl p t → Tree w' gl p t
  | .leaf s, t, h => h
  | .node a b, t, h => by
    obtain ⟨g, x, y, h1, h2, h3, h4, h5⟩ := h
    exact ⟨g, x, y, h1, h2, f g _ h3, Tree.grow f a x h4, Tree.grow f b y h5⟩
theorem boxes_grown {w w' : World} {B : Nat} {v : Value} {n : Nat} {xs : List Value} (h : w.ownsRow B 49 3 v n xs) (hg : w.grownBy w' v.ownBlock) : ∀ (g : Nat) (cs : Array Value), w.heap[g]? = some (.cells cs 50 (0, 0)) → w'.heap[g]? = some (.cells cs 50 (0, 0)) := by
  intro g cs hc
  rw [hg.block g (lt_of hc) ?_, hc]
  intro he
  rcases h.2 with ⟨rfl, _⟩ | ⟨g', cap, cur, rfl, hb, hh, _⟩
  · simp [Value.ownBlock] at he
  · simp [Value.ownBlock] at he
    subst he
    rw [hc] at hh
    simp at hh
/-- The variables that meet uses: the lengths' slice, itself. -/
structure Meets (w : World) (b1 b2 gl nl cl : Nat) : Prop where
  h1 : w.heap[b1]? = some (.cells #[.slice (some ⟨gl, 0, none⟩) nl cl] 24 (0, 0))
  h2 : w.heap[b2]? = some (.cells #[.func (.func 19) #[] #[.pointer (some ⟨b1, 0, none⟩), .pointer (some ⟨b2, 0, none⟩)]] 52 (0, 0))
  n1 : b1 ≠ gl
  n2 : b2 ≠ gl
theorem Meets.to {w w' : World} {b1 b2 gl nl cl : Nat} (h : Meets w b1 b2 gl nl cl) (f : Fr [gl] w w') : Meets w' b1 b2 gl nl cl := ⟨f.blk h.h1 (by simpa using h.n1), f.blk h.h2 (by simpa using h.n2), h.n1, h.n2⟩

set_option maxRecDepth 2000000 in
set_option maxHeartbeats 3200000 in
theorem meet_leaf (b1 b2 gl nl cl s tw : Nat) (F : Nat → Nat) (w : World) (hM : Meets w b1 b2 gl nl cl) (hF : Nrow w gl 5 .u8 nl F) (hs : s < nl) (hn : nl ≤ 1000) (hb : F s ≤ 254) :
    Calls Try.prog 19 #[tv ⟨tw, s, none⟩, .pointer (some ⟨b1, 0, none⟩), .pointer (some ⟨b2, 0, none⟩)] w fun e w' => e = .returned (.tuple #[]) ∧ Nrow w' gl 5 .u8 nl (fun k => F k + if k = s then 1 else 0) ∧ Fr [gl] w w' := by
  have hA := Fr.alloc [] w (.cells (Te ⟨tw, s, none⟩).toArray 49)
  have hM1 := hM.to hA.nil
  have hF1 := hF.to hA (by simp)
  have c1 := cell_of hM1.h1 0
  have d0 := hF1.cell s hs
  have fz := free_of hF1 s
  have hset := hF1.set_ (G := fun k => F k + if k = s then 1 else 0) s (F s + 1) (fun j _ => by by_cases h : j = s <;> simp [h])
  obtain ⟨x, hx⟩ : ∃ x, F s = x := ⟨_, rfl⟩
  rw [hx] at d0 hset hb
  have hsn : (s : Int) < (nl : Int) := by omega
  have hni : (nl : Int) ≤ 1000 := by omega
  obtain ⟨y, hy⟩ : ∃ y, x + 1 = y := ⟨_, rfl⟩
  rw [hy] at hset
  have ex : (x : Int) + 1 = (y : Int) := by omega
  have hxb : (x : Int) ≤ 254 := by omega
  simp at c1
  simp only [Te] at c1 d0 fz hset hA
  have HS := Lib.hid (And.intro hset hA)
  unfold tv
  clear hM hF hM1 hF1 hset hx hA hs hn hb hy
  go_enter Try.func19, Try.ntmps19
  go_wp2_with fail
  ((try simp only [Exit.inBlock, Exit.then]); refine bodyPost_ret (results_none rfl _ _ _) rfl ?_)
  exact ⟨rfl, HS.out.1, HS.out.2.nil.trans (Fr.setCell _ _ _ _)⟩
set_option maxRecDepth 2000000 in
set_option maxHeartbeats 6400000 in
theorem meet_any (b1 b2 gl nl cl : Nat) (hn : nl ≤ 1000) (p : PT) : ∀ (t : Th) (F : Nat → Nat) (w : World) (hT : Tree w gl p t) (hM : Meets w b1 b2 gl nl cl) (hF : Nrow w gl 5 .u8 nl F) (hs : ∀ s, 0 < occ p s → s < nl) (hb : ∀ s, F s + occ p s ≤ 255),
    Calls Try.prog 19 #[tv t, .pointer (some ⟨b1, 0, none⟩), .pointer (some ⟨b2, 0, none⟩)] w fun e w' => e = .returned (.tuple #[]) ∧ Nrow w' gl 5 .u8 nl (fun k => F k + occ p k) ∧ Fr [gl] w w' := by
  induction p with
  | leaf s =>
    rintro ⟨tw, ts, two⟩ F w ⟨h1, h2⟩ hM hF hs hb
    simp only at h1 h2
    subst h1
    subst h2
    exact meet_leaf b1 b2 gl nl cl ts tw F w hM hF (hs ts (by simp [occ])) hn (by have := hb ts; simp [occ] at this; omega)
  | node a b iha ihb =>
    rintro ⟨tw, ts, two⟩ F w ⟨g, x, y, h1, h2, h3, h4, h5⟩ hM hF hs hb
    simp only at h1
    subst h1
    have hA := Fr.alloc [] w (.cells (Te ⟨tw, ts, some ⟨g, 0, none⟩⟩).toArray 49)
    have hM1 := hM.to hA.nil
    have hF1 := hF.to hA (by simp)
    have h3' := hA.blk h3 (by simp)
    have hgl : gl ≠ w.heap.size := by have := lt_of hF; omega
    have hbox := new_of w (.cells (Te ⟨tw, ts, some ⟨g, 0, none⟩⟩).toArray 49)
    have c2 := cell_of hM1.h2 0
    have g0 := cell_of h3' 0
    have g1 := cell_of h3' 1
    have g2 := cell_of h3' 2
    have hglt := lt_of h3'
    have HA1 := Lib.hid (fun W (f : Fr [] (w.alloc (.cells (Te ⟨tw, ts, some ⟨g, 0, none⟩⟩).toArray 49)) W) => iha x F W (Tree.to f.nil a x (Tree.to hA.nil a x h4)) (hM1.to f.nil) (hF1.to f (by simp)) (fun s h => hs s (by simp [occ]; omega)) (fun s => by have := hb s; simp [occ] at this; omega))
    have HS := Lib.hid (And.intro h2 (And.intro h3' (And.intro h5 (And.intro hM1 (And.intro hs (And.intro hb (And.intro hA (And.intro hgl hbox))))))))
    simp [Te] at c2 g0 g1 g2 hglt
    simp only [Te] at HA1 HS
    unfold tv at *
    clear hM hF hM1 hF1 hs hb hA hgl hbox h2 h3 h3' h4 h5 iha
    go_enter Try.func19, Try.ntmps19
    go_wp2_with fail
    refine wp_region_quiet_tail 6 (by kernel_rfl) (by kernel_rfl) ?_
    simp only [List.take_succ_cons, List.take_zero, List.drop_succ_cons, List.drop_zero]
    repeat go_big_quiet_step (fail)
    refine wpQuiet_nil ?_
    go_wp2_with fail
    refine (HA1.out _ (Fr.drew (Fr.refl [] _))).mono ?_
    rintro e w1 ⟨rfl, hF2, f2⟩
    obtain ⟨h2, h3', h5, hM1, hs, hb, hA, hgl, hbox⟩ := HS.out
    have f3 := (Fr.drew (Fr.refl [gl] (w.alloc (.cells #[.int .i64 (tw : Int), .int .i64 (ts : Int), .pointer (some ⟨g, 0, none⟩)] 49)))).trans f2
    have hbox1 := f3.blk hbox (by simpa using Ne.symm hgl)
    have h31 := f3.blk h3' (by simpa using h2)
    have hM2 := hM1.to f3
    have hT2 := Tree.to f3 b y (Tree.to hA.nil b y h5)
    have e0 := cell_of hbox1 2
    have e2 := cell_of hM2.h2 0
    have k0 := cell_of h31 3
    have k1 := cell_of h31 4
    have k2 := cell_of h31 5
    have hglt1 := lt_of h31
    have HA2 := Lib.hid (fun W (f : Fr [] w1 W) => ihb y (fun k => F k + occ a k) W (Tree.to f.nil b y hT2) (hM2.to f.nil) (hF2.to f (by simp)) (fun s h => hs s (by simp [occ]; omega)) (fun s => by have := hb s; simp [occ] at this; omega))
    have H2 := Lib.hid (hA.nil.trans f3)
    simp at e0 e2 k0 k1 k2
    unfold tv at HA2
    clear h2 h3' h5 hM1 hs hb hA hgl hbox f2 f3 hbox1 h31 hM2 hT2 hF2 ihb c2 g0 g1 g2
    go_wp2_with fail
    refine wp_region_quiet_tail 6 (by kernel_rfl) (by kernel_rfl) ?_
    simp only [List.take_succ_cons, List.take_zero, List.drop_succ_cons, List.drop_zero]
    repeat go_big_quiet_step (fail)
    refine wpQuiet_nil ?_
    go_wp2_with fail
    refine (HA2.out _ (Fr.drew (Fr.refl [] _))).mono ?_
    rintro e w3 ⟨rfl, hF3, f4⟩
    have H3 := Lib.hid (And.intro hF3 (H2.out.trans ((Fr.drew (Fr.refl [gl] w1)).trans f4)))
    clear hF3 f4
    go_wp2_with fail
    go_end0
    refine ⟨rfl, H3.out.1.congr fun k _ => ?_, H3.out.2⟩
    simp only [occ]; omega
end Go.Proofs.Ytmajacfcfdljeaa
