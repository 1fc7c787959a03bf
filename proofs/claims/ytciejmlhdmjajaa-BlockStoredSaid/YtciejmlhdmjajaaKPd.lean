/- How long codes must be: Needs, and the number of a number's bits. pack.Lens: the walk where all is well. -/
import Derived.Test.YtciejmlhdmjajaaKRg
import Derived.Test.YtciejmlhdmjajaaKWb
import Derived.Test.YtciejmlhdmjajaaKPg
import Derived.Deep.CutRange
import Derived.Laws.EntriesVeiled
import Derived.Deep.RegionHeld3
import Derived.Deep.AppendLies
namespace Go.Proofs.Ytciejmlhdmjajaa
open Go.RowKit
set_option linter.unusedVariables false
set_option linter.unusedSimpArgs false

set_option maxRecDepth 100000 in
set_option maxHeartbeats 1600000 in
theorem len_any (x : Nat) (w : World) (h : x < 2 ^ 64) :
    Calls Try.prog 75 #[.int .u64 x] w fun e w' => e = .returned (.int .i64 (bl x : Nat)) ∧ w' = w := by
  have HC := Lib.hid (len64_any x w h)
  go_enter Try.func75, Try.ntmps75
  go_wp2_with fail
  refine HC.out.mono ?_
  rintro e w1 ⟨rfl, rfl⟩
  go_wp2_with fail
  go_ret
  exact ⟨rfl, rfl⟩
/-- The least limit with which n symbols can have codes. -/
def needN (n : Int) : Nat := if n < 1 then 0 else if n < 3 then 1 else bl (n - 1).toNat
set_option maxRecDepth 100000 in
set_option maxHeartbeats 1600000 in
theorem needs_any (n : Int) (w : World) (h0 : -9223372036854775808 ≤ n) (h1 : n ≤ 9223372036854775807) :
    Calls Try.prog 46 #[.int .i64 n] w fun e w' => e = .returned (.int .i64 (needN n : Nat)) ∧ w' = w := by
  by_cases ha : n < 1
  · have HE := Lib.hid (show needN n = 0 by unfold needN; rw [if_pos ha])
    go_enter Try.func46, Try.ntmps46
    go_wp2_with fail
    go_ret
    rw [HE.out]
    exact ⟨rfl, rfl⟩
  · by_cases hb : n < 3
    · have HE := Lib.hid (show needN n = 1 by unfold needN; rw [if_neg ha, if_pos hb])
      have ha' : 1 ≤ n := by omega
      clear ha
      go_enter Try.func46, Try.ntmps46
      go_wp2_with fail
      go_ret
      rw [HE.out]
      exact ⟨rfl, rfl⟩
    · obtain ⟨x, hx⟩ : ∃ x : Nat, (n - 1).toNat = x := ⟨_, rfl⟩
      have ex : n - 1 = (x : Int) := by omega
      have HE := Lib.hid (show needN n = bl x by unfold needN; rw [if_neg ha, if_neg hb, hx])
      have HC := Lib.hid (len_any x w (by omega))
      have hx1 : (x : Int) ≤ 9223372036854775807 := by omega
      have hb' : 3 ≤ n := by omega
      clear ha hb hx
      go_enter Try.func46, Try.ntmps46
      go_wp2_with fail
      refine HC.out.mono ?_
      rintro e w1 ⟨rfl, rfl⟩
      go_wp2_with fail
      go_ret
      rw [HE.out]
      exact ⟨rfl, rfl⟩
end Go.Proofs.Ytciejmlhdmjajaa
namespace Go.Proofs.Ytciejmlhdmjajaa
open Go.RowKit
set_option linter.unusedVariables false
set_option linter.unusedSimpArgs false

set_option maxHeartbeats 400000 in
/-- 'append(row, x..)' at a step of a region that draws, the x just put into a new block. -/
theorem step_push {P : Program} (B : Nat) (W w0 : World) {ops : Array Oper} {o : Oper} {a : Act} {K : Act → World → Prop} {Q : Exit → Act → World → Prop} {X : Prop} (hgd : o.guard = none) (s x : Operand) (t : TypeId)
    (ho : o.op = .call { callee := .builtin .append, args := #[s, x], argTypes := #[t, t] })
    (e : TypeId) (size bytes : Nat) (E : Elem P t e size bytes) (v : Value) (n : Nat) (xs : List Value) (hs : a.eval s = v) (hown : Hid (w0.ownsRow B e size v n xs)) (hB : Hid (Below B W w0)) (hBs : B ≤ w0.heap.size)
    (cs : Array Value) (N m c : Nat) (hx : a.eval x = .slice (some ⟨N, 0, none⟩) m c) (hN : w0.heap[N]? = some (.cells cs e (0, 0))) (hl : cs.size = m * size) (h1 : cs.toList.all Value.oneCell' = true) (hm : 0 < m)
    (h63 : n + m ≤ 9223372036854775807) (hbytes : (n + m) * bytes ≤ 140737488355328)
    (h : ∀ g cap w', Hid (w'.ownsRow B e size (.slice (some ⟨g, 0, none⟩) (n + m) cap) (n + m) (xs ++ cs.toList) ∧ w0.grownBy w' v.ownBlock ∧ Below B W w' ∧ B ≤ g) → K (a.put o.dst (.slice (some ⟨g, 0, none⟩) (n + m) cap)) w') :
    if Region.wanted o (yielded ops a.tmps) = true then Oper.wp P o a w0 K Q else X := by
  obtain ⟨ht, i, z, hi, hz, hsz, hby, hzs, hpos⟩ := E
  refine step_append_lies _ hgd s x t ho B e i z size bytes ht hi hz hsz hby hzs hpos v n xs hs hown.out ⟨N, 0, none⟩ m c cs.toList hx (by simpa using hl) (World.news_of_block hN) (fun u hu => List.all_eq_true.1 h1 u hu) hm (by unfold maxLen; omega) hbytes hBs _ rfl ?_
  intro g cap w' k1 k2 k3 k4
  exact h g cap w' (Lib.hid ⟨k1, k2, below_grown hB.out k2 hBs (fun g' hg' => (hown.out.lt g' hg').1), (k1.lt g rfl).1⟩)
/-- A row of weights and what they are weights of, in memory. -/
def Rowm (w : World) (gl g n : Nat) (A : Nat → Nat × PT) : Prop := ∃ F, Trow w g n F ∧ ∀ k, k < n → (F k).w = (A k).1 ∧ Tree w gl (A k).2 (F k)
theorem Rowm.to {w w' : World} {gl g n : Nat} {A : Nat → Nat × PT} (h : Rowm w gl g n A) (f : Fr [gl] w w') (hg : g ≠ gl) : Rowm w' gl g n A := by
  obtain ⟨F, h1, h2⟩ := h
  exact ⟨F, h1.to f (by simpa using hg), fun k hk => ⟨(h2 k hk).1, Tree.to f _ _ (h2 k hk).2⟩⟩
/-- Two things' cells. -/
def Six (g p q xw xs : Nat) (xt : Option Addr) (yw ys : Nat) (yt : Option Addr) (w : World) : Prop :=
  w.cell? ⟨g, p * 3, none⟩ = some (.int .i64 (xw : Int)) ∧ w.cell? ⟨g, p * 3 + 1, none⟩ = some (.int .i64 (xs : Int)) ∧ w.cell? ⟨g, p * 3 + 2, none⟩ = some (.pointer xt) ∧ w.cell? ⟨g, q * 3, none⟩ = some (.int .i64 (yw : Int)) ∧ w.cell? ⟨g, q * 3 + 1, none⟩ = some (.int .i64 (ys : Int)) ∧ w.cell? ⟨g, q * 3 + 2, none⟩ = some (.pointer yt)
theorem Six.to {g p q xw xs : Nat} {xt : Option Addr} {yw ys : Nat} {yt : Option Addr} {w w' : World} (h : Hid (g < w.heap.size ∧ Six g p q xw xs xt yw ys yt w)) (b : Below w.heap.size w w') : Six g p q xw xs xt yw ys yt w' := by
  obtain ⟨h0, h1, h2, h3, h4, h5, h6⟩ := h.out
  unfold Six
  rw [b.cell (p := ⟨g, p * 3, none⟩) h0, b.cell (p := ⟨g, p * 3 + 1, none⟩) h0, b.cell (p := ⟨g, p * 3 + 2, none⟩) h0, b.cell (p := ⟨g, q * 3, none⟩) h0, b.cell (p := ⟨g, q * 3 + 1, none⟩) h0, b.cell (p := ⟨g, q * 3 + 2, none⟩) h0]
  exact ⟨h1, h2, h3, h4, h5, h6⟩
/-- What holds at the head of a round of the inner loop: m packages are made. -/
def InnerR (wo : World) (gl r : Nat) (A : Nat → Nat × PT) (v10 v11 : Value) (wr : World) : Prop :=
  ∃ (m : Nat) (vv : Value) (G : Nat → Th), vv = v10 ∧ v11 = .int .i64 ((2 * m : Nat) : Int) ∧ 2 * m ≤ r ∧ wr.ownsRow wo.heap.size 102 3 v10 m ((List.range m).flatMap fun k => Te (G k)) ∧ (∀ k, k < m → (G k).w = (pairs A k).1 ∧ Tree wr gl (pairs A k).2 (G k)) ∧ Below wo.heap.size wo wr
/-- What holds at the head of a round of the last loop: k things are met. -/
def LastR (w : World) (gl b1 b2 gr nl r K : Nat) (A : Nat → Nat × PT) (v104 : Value) (wr : World) : Prop :=
  ∃ k : Nat, v104 = .int .i64 (k : Int) ∧ k ≤ K ∧ Rowm wr gl gr r A ∧ Meets wr b1 b2 gl nl nl ∧ Nrow wr gl 5 .u8 nl (sumOcc A k) ∧ Fr [] w wr
/-- The lengths that counts have. -/
def lensN (l : List Int) (m s : Nat) : Nat := lenOf PT.node occ ((sortC l).map leafP) (m - 1) s
/-- What holds at the head of a round of the outer loop: the row of level j + 1 is made. -/
def OuterR (w : World) (l : List Int) (limit : Int) (n gl b1 g : Nat) (L : Nat → Nat × PT) (v9 v56 : Value) (wr : World) : Prop :=
  ∃ (j r gr cr : Nat) (A : Nat → Nat × PT), v9 = .slice (some ⟨gr, 0, none⟩) r cr ∧ v56 = .int .i64 (j : Int) ∧ (j : Int) ≤ limit - 1 ∧ 2 ≤ r ∧ r ≤ 2 * n ∧ r ≤ cr ∧ Lev n L j r A ∧ Rowm wr gl gr r A ∧ Rowm wr gl g n L ∧ (∀ k, k < r → (A k).1 ≤ 2 ^ (30 + j)) ∧ gr ≠ gl ∧ gr ≠ b1 ∧ wr.heap[b1]? = some (.cells #[.slice (some ⟨gl, 0, none⟩) l.length l.length] 25 (0, 0)) ∧ Nrow wr gl 5 .u8 l.length (fun _ => 0) ∧ Fr [] w wr
theorem leafL_two : ∀ (xs : List Int) (s : Nat), ∀ t ∈ leafL s xs, t.two = none
  | [], s, t, ht => by simp [leafL] at ht
  | x :: xs, s, t, ht => by
    rw [leafL] at ht
    split at ht
    · rcases List.mem_cons.1 ht with rfl | h1
      · rfl
      · exact leafL_two xs (s + 1) t h1
    · exact leafL_two xs (s + 1) t ht
theorem rowF_two (xs : List Int) (k : Nat) : (rowF (leafL 0 xs) k).two = none := by
  unfold rowF
  rw [List.getD_eq_getElem?_getD]
  cases hk : (leafL 0 xs)[k]? with
  | none => rfl
  | some t => exact leafL_two xs 0 t (List.mem_of_getElem? hk)
theorem need_room {n k : Nat} (h : needN (n : Int) ≤ k) : n ≤ 2 ^ k := by
  unfold needN at h
  by_cases h1 : (n : Int) < 1
  · have : n = 0 := by omega
    subst this; exact Nat.zero_le _
  · rw [if_neg h1] at h
    by_cases h3 : (n : Int) < 3
    · rw [if_pos h3] at h
      have : 2 ^ 1 ≤ 2 ^ k := Nat.pow_le_pow_right (by decide) h
      omega
    · rw [if_neg h3] at h
      have := (bl_le _ k).1 h
      omega
theorem SortedS.weights {W V σ : Nat → Nat} {n : Nat} (h : SortedS W σ 0 n) (hs : ∀ k, k < n → σ k < n) (e : ∀ k, k < n → V k = W k) : SortedS V σ 0 n := by
  intro i j h0 h1 h2
  have := h i j h0 h1 h2
  unfold ltS at this ⊢
  rw [e _ (hs i (by omega)), e _ (hs j h2)]
  exact this
set_option maxRecDepth 2000000 in
set_option maxHeartbeats 12800000 in
theorem lens_good (a : Option Addr) (c : Nat) (l : List Int) (limit : Int) (w : World) (hs : SlOf (Zn .i64) 1 w a l) (hl : l.length ≤ 320) (hgood : ¬ badC l) (h1 : 1 ≤ limit) (h2 : limit ≤ 15) (h3 : (needN (leafL 0 l).length : Int) ≤ limit) (hn2 : 2 ≤ (leafL 0 l).length) :
    Calls Try.prog 27 #[.slice a l.length c, .int .i64 limit] w fun e w' => ∃ gl, e = .returned (.tuple #[.slice (some ⟨gl, 0, none⟩) l.length l.length, .int .i64 0]) ∧ w.heap.size ≤ gl ∧ Nrow w' gl 5 .u8 l.length (lensN l limit.toNat) ∧ Fr [] w w' := by
  have hl1 : (l.length : Int) ≤ 320 := by omega
  have HC := Lib.hid (leaves_any a c l w hs (by omega))
  obtain ⟨n, hn⟩ : ∃ n, (leafL 0 l).length = n := ⟨_, rfl⟩
  have hnl := leafL_len l 0
  rw [hn] at h3 hn2 hnl
  obtain ⟨nd, hnd⟩ : ∃ nd, needN (n : Int) = nd := ⟨_, rfl⟩
  rw [hnd] at h3
  have HN := Lib.hid (fun W => needs_any (n : Int) W (by omega) (by omega))
  rw [hnd] at HN
  have hn3 : 2 ≤ (n : Int) := by omega
  have hn4 : (n : Int) ≤ 320 := by omega
  have hd1 : decide (limit < 1) = false := by simp; omega
  have hd2 : decide (15 < limit) = false := by simp; omega
  have hd3 : decide (limit < (nd : Int)) = false := by simp; omega
  have hd4 : decide ((n : Int) < 2) = false := by simp; omega
  have hd5 : ((n : Int) == 1) = false := by rw [beq_eq_false_iff_ne]; omega
  have HS := Lib.hid (And.intro hs (And.intro hgood (And.intro hn hnd)))
  clear hs hgood hl hn hnd hn2 hnl
  go_enter Try.func27, Try.ntmps27
  go_wp2_with fail
  refine HC.out.mono ?_
  rintro e w1 ⟨hf1, ⟨hb, _⟩ | ⟨_, v, rfl, hv⟩⟩
  · exact absurd hb HS.out.2.1
  rcases hv with ⟨rfl, hnil⟩ | ⟨g, cap, τ, rfl, hge, hcap, hT, hsh, hso⟩
  · have := HS.out.2.2.1
    rw [hnil] at this
    simp at this
    omega
  rw [HS.out.2.2.1] at hT hsh hso hcap ⊢
  have H1 := Lib.hid (And.intro hf1 (And.intro hge (And.intro hT (And.intro hsh (And.intro hso hcap)))))
  clear hf1 hge hT hsh hso hcap
  go_wp2_with fail
  refine (HN.out _).mono ?_
  rintro e w2 ⟨rfl, hw⟩
  replace hw := hw.symm
  subst hw
  have hmk := run_make_bytes w1 l.length (by omega)
  obtain ⟨gl, hgl⟩ : ∃ gl, gl = w1.heap.size := ⟨_, rfl⟩
  obtain ⟨b1, hb1⟩ : ∃ b1, b1 = w1.heap.size + 1 := ⟨_, rfl⟩
  obtain ⟨L, hL⟩ : ∃ L : Nat → Nat × PT, L = fun k => ((rowF (leafL 0 l) (τ k)).w, .leaf (rowF (leafL 0 l) (τ k)).s) := ⟨_, rfl⟩
  have hLw : ∀ k, (L k).1 ≤ 1073741824 := fun k => by
    rw [hL]
    exact rowF_w _ _ (leafL_w l 0 fun x hx => by
      have := HS.out.2.1
      unfold badC at this
      rcases Int.lt_or_le 1073741824 x with h | h
      · exact absurd (.inr ⟨x, hx, .inr h⟩) this
      · exact h) _
  have HL := Lib.hid (And.intro hgl (And.intro hb1 (And.intro hL hLw)))
  clear hgl hb1 hL hLw
  go_wp2_with fail
  go_loopw [9, 10, 11, 56] (fun v9 _ _ v56 wr => OuterR w l limit n gl b1 g L v9 v56 wr) (fun _ _ _ v56 _ => 16 - (intOf v56).toNat)
  case atStart =>
    obtain ⟨hf1, hge, hT, hsh, hso, hcap⟩ := H1.out
    obtain ⟨hgl, hb1, hL, hLw⟩ := HL.out
    have hA0 := Fr.alloc [] w1 (.cells (Lib.byteCells (List.replicate l.length 0)).toArray 5)
    have hR1 : Rowm w1 gl g n L := by
      refine ⟨_, hT, fun k _ => ?_⟩
      rw [hL]
      exact ⟨rfl, rowF_two l _, rfl⟩
    have hA1 := hA0.trans (Fr.alloc [] _ (.cells #[.slice (some ⟨w1.heap.size, 0, none⟩) l.length l.length] 25))
    have hg1 : g < w1.heap.size := hT.lt
    have hRA : Rowm ((w1.alloc (.cells (Lib.byteCells (List.replicate l.length 0)).toArray 5)).alloc (.cells #[.slice (some ⟨w1.heap.size, 0, none⟩) l.length l.length] 25)) gl g n L := hR1.to hA1.nil (by omega)
    have hN := new_of (w1.alloc (.cells (Lib.byteCells (List.replicate l.length 0)).toArray 5)) (.cells #[.slice (some ⟨w1.heap.size, 0, none⟩) l.length l.length] 25)
    rw [show (w1.alloc (.cells (Lib.byteCells (List.replicate l.length 0)).toArray 5)).heap.size = w1.heap.size + 1 from Array.size_push _] at hN
    have hZ := (Fr.alloc [] _ (.cells #[.slice (some ⟨w1.heap.size, 0, none⟩) l.length l.length] 25)).blk (new_of w1 (.cells (Lib.byteCells (List.replicate l.length 0)).toArray 5)) (by simp)
    subst hgl
    subst hb1
    refine ⟨0, n, g, cap, L, rfl, rfl, by omega, by omega, by omega, hcap, .one, hRA, hRA, fun k _ => Nat.le_trans (hLw k) (by decide), by omega, by omega, hN, ?_, hf1.trans hA1⟩
    unfold Nrow
    rw [hZ]
    congr 2
    apply Array.ext'
    apply List.ext_getElem?
    intro i
    by_cases hi : i < l.length
    · simp [Lib.byteCells, hi]
    · simp [Lib.byteCells, hi]
  case round =>
    obtain ⟨j, r, gr, cr, A, rfl, rfl, hj, hr2, hrn, hrc, hlev, hR, hL, hw, hgr, hgb, hvar, hlens, hf⟩ := hrel
    by_cases hjl : (j : Int) < limit - 1
    · have hri : (r : Int) ≤ 640 := by omega
      have hr2' : 2 ≤ (r : Int) := by omega
      have HR := Lib.hid (And.intro hR (And.intro hlev (And.intro hL (And.intro hw (And.intro hgr (And.intro hgb (And.intro hvar (And.intro hlens hf))))))))
      clear hR hlev hL hw hgr hgb hvar hlens hf
      go_wp2_with fail
      obtain ⟨wo, hwo⟩ : ∃ wo, wo = wr := ⟨wr, rfl⟩
      subst hwo
      go_loopw [10, 11] (fun v10 v11 wr => InnerR wo gl r A v10 v11 wr) (fun _ v11 _ => r - (intOf v11).toNat)
      case atStart => exact ⟨0, _, fun _ => th0, rfl, rfl, by omega, World.ownsRow_nil _ _ _ _, fun k hk => by omega, Below.refl _ _⟩
      case round =>
        obtain ⟨m, vv, G, rfl, rfl, hmr, hown, hG, hbel⟩ := hrel
        obtain ⟨p, hp⟩ : ∃ p, 2 * m = p := ⟨_, rfl⟩
        rw [hp]
        obtain ⟨q, hq⟩ : ∃ q, p + 1 = q := ⟨_, rfl⟩
        have eq_ : (p : Int) + 1 = (q : Int) := by omega
        by_cases hqr : q < r
        · have hqi : (q : Int) < (r : Int) := by omega
          have hpi : (p : Int) < (r : Int) := by omega
          obtain ⟨F, hF0, hF2⟩ := HR.out.1
          have hF1 := hF0.to (l := []) (Fr.of_below hbel) (by simp)
          have hSix := And.intro hF0.lt (And.intro (hF0.c0 p (by omega)) (And.intro (hF0.c1 p (by omega)) (And.intro (hF0.c2 p (by omega)) (And.intro (hF0.c0 q (by omega)) (And.intro (hF0.c1 q (by omega)) (hF0.c2 q (by omega)))))))
          have c0 := hF1.c0 p (by omega)
          have c1 := hF1.c1 p (by omega)
          have c2 := hF1.c2 p (by omega)
          have d0 := hF1.c0 q (by omega)
          have d1 := hF1.c1 q (by omega)
          have d2 := hF1.c2 q (by omega)
          have hglt := hF1.lt
          obtain ⟨tP1, tP2⟩ := hF2 p (by omega)
          obtain ⟨tQ1, tQ2⟩ := hF2 q (by omega)
          have tP := And.intro tP1 (Tree.to (Fr.of_below hbel) _ _ tP2)
          have tQ := And.intro tQ1 (Tree.to (Fr.of_below hbel) _ _ tQ2)
          have wP := HR.out.2.2.2.1 p (by omega)
          have wQ := HR.out.2.2.2.1 q (by omega)
          have hpow : 2 ^ (30 + j) ≤ 2 ^ 45 := Nat.pow_le_pow_right (by decide) (by omega)
          obtain ⟨⟨xw, xs, xt⟩, hX⟩ : ∃ z, F p = z := ⟨_, rfl⟩
          obtain ⟨⟨yw, ys, yt⟩, hY⟩ : ∃ z, F q = z := ⟨_, rfl⟩
          rw [hX] at c0 c1 c2 tP hSix
          rw [hY] at d0 d1 d2 tQ hSix
          obtain ⟨z, hz⟩ : ∃ z, xw + yw = z := ⟨_, rfl⟩
          have ez : (xw : Int) + (yw : Int) = (z : Int) := by omega
          have hxw : (z : Int) ≤ 100000000000000 := by have := tP.1; have := tQ.1; simp only at *; omega
          simp only at c0 c1 c2 d0 d1 d2
          have HS2 := Lib.hid (And.intro hG (And.intro tP (And.intro tQ (And.intro hp (And.intro hq hz)))))
          have HK : Hid (gr < wo.heap.size ∧ Six gr p q xw xs xt yw ys yt wo) := Lib.hid hSix
          have hW := Lib.hid hbel
          have hS := Lib.hid hown
          have hsz := hbel.size
          have hwq : IntKind.i64.wrap (q : Int) = (q : Int) := IntWalk.i64_in _ (by omega)
          have hwz : IntKind.i64.wrap (z : Int) = (z : Int) := IntWalk.i64_in _ (by omega)
          have hm320 : m ≤ 640 := by omega
          clear hown hG hbel hF0 hF1 hF2 tP tQ tP1 tP2 tQ1 tQ2 hSix hX hY hp hq hz wP wQ hpow hmr
          go_wp2_with fail
          have hA0 : Fr [] wr ((wr.alloc (.cells #[.int .i64 (xw : Int), .int .i64 (xs : Int), .pointer xt, .int .i64 (yw : Int), .int .i64 (ys : Int), .pointer yt] 103)).alloc (.cells #[.int .i64 (z : Int), .int .i64 0, .pointer (some ⟨wr.heap.size, 0, none⟩)] 102)).drew := ((Fr.alloc [] wr (.cells #[.int .i64 (xw : Int), .int .i64 (xs : Int), .pointer xt, .int .i64 (yw : Int), .int .i64 (ys : Int), .pointer yt] 103)).trans (Fr.alloc [] _ (.cells #[.int .i64 (z : Int), .int .i64 0, .pointer (some ⟨wr.heap.size, 0, none⟩)] 102))).drew
          have hW2 := Lib.hid (hA0.out hW.out (by simp))
          have hS2 := Lib.hid (ownsRow_to hS.out hA0 (by simp))
          have hsz2 := Lib.hid hW2.out.size
          have hbox := (Fr.alloc [] _ (.cells #[.int .i64 (z : Int), .int .i64 0, .pointer (some ⟨wr.heap.size, 0, none⟩)] 102)).drew.blk (new_of wr (.cells #[.int .i64 (xw : Int), .int .i64 (xs : Int), .pointer xt, .int .i64 (yw : Int), .int .i64 (ys : Int), .pointer yt] 103)) (by simp)
          have hth : ((wr.alloc (.cells #[.int .i64 (xw : Int), .int .i64 (xs : Int), .pointer xt, .int .i64 (yw : Int), .int .i64 (ys : Int), .pointer yt] 103)).alloc (.cells #[.int .i64 (z : Int), .int .i64 0, .pointer (some ⟨wr.heap.size, 0, none⟩)] 102)).drew.heap[wr.heap.size + 1]? = some (.cells #[.int .i64 (z : Int), .int .i64 0, .pointer (some ⟨wr.heap.size, 0, none⟩)] 102) := by
            have := new_of (wr.alloc (.cells #[.int .i64 (xw : Int), .int .i64 (xs : Int), .pointer xt, .int .i64 (yw : Int), .int .i64 (ys : Int), .pointer yt] 103)) (.cells #[.int .i64 (z : Int), .int .i64 0, .pointer (some ⟨wr.heap.size, 0, none⟩)] 102)
            rw [show (wr.alloc (.cells #[.int .i64 (xw : Int), .int .i64 (xs : Int), .pointer xt, .int .i64 (yw : Int), .int .i64 (ys : Int), .pointer yt] 103)).heap.size = wr.heap.size + 1 from Array.size_push _] at this
            exact this
          have hNew := Lib.hid (And.intro hA0 (And.intro hbox hth))
          clear hA0 hbox hth
          go_region_held3 (fun w' => w'.cell? ⟨gr, p * 3, none⟩ = some (.int .i64 (xw : Int)) ∧ w'.cell? ⟨gr, p * 3 + 1, none⟩ = some (.int .i64 (xs : Int)) ∧ w'.cell? ⟨gr, p * 3 + 2, none⟩ = some (.pointer xt) ∧ w'.cell? ⟨gr, q * 3, none⟩ = some (.int .i64 (yw : Int)) ∧ w'.cell? ⟨gr, q * 3 + 1, none⟩ = some (.int .i64 (ys : Int)) ∧ w'.cell? ⟨gr, q * 3 + 2, none⟩ = some (.pointer yt)) (first | go_keep | exact Six.to HK HQ.out.2.2.1) ((refine step_push wo.heap.size wo _ (by rfl) (.tmp 65) (.tmp 90) 96 (by rfl) 102 3 24 elemT vv m _ (by rfl) hS2 hW2 hsz2.out #[.int .i64 (z : Int), .int .i64 0, .pointer (some ⟨wr.heap.size, 0, none⟩)] (wr.heap.size + 1) 1 1 (by rfl) hNew.out.2.2 (by rfl) (by rfl) (by omega) (by omega) (by omega) ?_; intro g' cap' w5 HQ))
          go_wp2_with fail
          go_roundw
          case rel =>
            obtain ⟨hG, tP, tQ, hp, hq, hz⟩ := HS2.out
            obtain ⟨hA0, hbox, hth⟩ := hNew.out
            obtain ⟨hown5, hgrow5, hbel5, hge5⟩ := HQ.out
            have hB5 := boxes_grown hS2.out hgrow5
            have hglt : gl < wo.heap.size := lt_of HR.out.2.2.2.2.2.2.2.1
            have hszw := hW.out.size
            subst hp
            have hq' : q = 2 * m + 1 := by omega
            subst hq'
            refine ⟨m + 1, _, fun k => if k = m then ⟨z, 0, some ⟨wr.heap.size, 0, none⟩⟩ else G k, rfl, by first | go_num | (congr 1; omega), by omega, ?_, ?_, hbel5⟩
            · rw [List.range_succ, List.flatMap_append]
              have e1 : (List.range m).flatMap (fun k => Te (if k = m then ⟨z, 0, some ⟨wr.heap.size, 0, none⟩⟩ else G k)) = (List.range m).flatMap fun k => Te (G k) := flatMap_alike _ _ _ fun k hk => by rw [if_neg (by have := List.mem_range.1 hk; omega)]
              have e2 : [m].flatMap (fun k => Te (if k = m then ⟨z, 0, some ⟨wr.heap.size, 0, none⟩⟩ else G k)) = [.int .i64 (z : Int), .int .i64 0, .pointer (some ⟨wr.heap.size, 0, none⟩)] := by simp [Te]
              rw [e1, e2]
              exact hown5
            · intro k hk
              by_cases hkm : k = m
              · subst hkm
                simp only [if_pos]
                refine ⟨by simp only [pairs]; omega, wr.heap.size, ⟨xw, xs, xt⟩, ⟨yw, ys, yt⟩, rfl, by omega, hB5 _ _ hbox, ?_, ?_⟩
                · exact Tree.grow hB5 _ _ (Tree.to hA0.nil _ _ tP.2)
                · exact Tree.grow hB5 _ _ (Tree.to hA0.nil _ _ tQ.2)
              · simp only [if_neg hkm]
                obtain ⟨g1, g2⟩ := hG k (by omega)
                exact ⟨g1, Tree.grow hB5 _ _ (Tree.to hA0.nil _ _ g2)⟩
          case measure => simp [intOf]; omega
        · have hqi : (r : Int) ≤ (q : Int) := by omega
          have hqd : decide (q < r) = false := by simp; omega
          have hqb : (q : Int) ≤ 1300 := by omega
          have hm2 : m = r / 2 := by omega
          have hm0 : 0 < m := by omega
          rcases hown.2 with ⟨_, h0⟩ | ⟨g2, cap2, cur, hv, _⟩
          · exact absurd h0 (by omega)
          subst hv
          obtain ⟨_, _, hT2⟩ := trow_of_own hown
          obtain ⟨F1, hT1, hF1⟩ := HR.out.2.2.1
          have hT1' : Trow wr g n (fun k => if k < n then F1 k else th0) := (hT1.to (l := []) (Fr.of_below hbel) (by simp)).congr fun k hk => by rw [if_pos hk]
          have hT2' : Trow wr g2 m (fun k => if k < m then G k else th0) := hT2.congr fun k hk => by rw [if_pos hk]
          have hpow : 2 ^ (30 + j) ≤ 2 ^ 45 := Nat.pow_le_pow_right (by decide) (by omega)
          have hG1 : ∀ k, k < m → (G k).w ≤ 2 ^ (30 + (j + 1)) := fun k hk => by
            rw [(hG k hk).1]
            have h1 := HR.out.2.2.2.1 (2 * k) (by omega)
            have h2 := HR.out.2.2.2.1 (2 * k + 1) (by omega)
            have h3 : 2 ^ (30 + (j + 1)) = 2 ^ (30 + j) * 2 := Nat.pow_succ _ _
            simp only [pairs]; omega
          have HC := Lib.hid (mergeP_any g n cap g2 m cap2 _ _ wr hT1' hT2' (by omega) hm0 (by omega) (fun k => by
            by_cases hk : k < n
            · simp only [if_pos hk]; rw [(hF1 k hk).1]; exact Nat.le_trans (HL.out.2.2.2 k) (by decide)
            · simp only [if_neg hk]; simp [th0]) (fun k => by
            by_cases hk : k < m
            · simp only [if_pos hk]
              have h1 := HR.out.2.2.2.1 (2 * k) (by omega)
              have h2 := HR.out.2.2.2.1 (2 * k + 1) (by omega)
              rw [(hG k hk).1]; simp only [pairs]; omega
            · simp only [if_neg hk]; simp [th0]))
          have HG := Lib.hid (And.intro hG (And.intro hF1 (And.intro hm2 (And.intro hm0 (And.intro hG1 (And.intro hbel (And.intro hp hq)))))))
          clear hown hT1 hT1' hT2 hT2' hF1 hG hm2 hm0 hpow hG1 hbel hp hq hmr
          go_wp2_with fail
          refine HC.out.mono ?_
          rintro e w5 ⟨g5, cap5, σ, rfl, f5, hge5, hcap5, hT5, hsh5, hso5⟩
          have H5 := Lib.hid (And.intro f5 (And.intro hge5 (And.intro hT5 (And.intro hsh5 (And.intro hso5 hcap5)))))
          clear f5 hge5 hT5 hsh5 hso5 hcap5 HC
          go_wp2_with fail
          go_roundw
          case rel =>
            obtain ⟨f5, hge5, hT5, hsh5, hso5, hcap5⟩ := H5.out
            obtain ⟨hG, hF1, hm2, hm0, hG1, hbel, hp, hq⟩ := HG.out
            obtain ⟨hR, hlev, hRL, hw, hgr, hgb, hvar, hlens, hf⟩ := HR.out
            obtain ⟨_, _, _, hLw⟩ := HL.out
            have hsz := hbel.size
            have hglt : gl < wo.heap.size := lt_of hlens
            have hblt : b1 < wo.heap.size := lt_of hvar
            have hσ : ∀ k, k < n + m → σ k < n + m := fun k hk => shuf_lt hsh5 k hk
            have hfw : Fr [gl] wo w5 := ((Fr.of_below hbel).trans f5).nil
            refine ⟨j + 1, n + m, g5, cap5, fun k => if σ k < n then L (σ k) else pairs A (σ k - n), rfl, by go_num, by omega, by omega, by omega, hcap5, ?_, ?_, ?_, ?_, by omega, by omega, ?_, ?_, ?_⟩
            · rw [hm2]
              rw [hm2] at hsh5 hso5 hσ
              refine Lev.more j r A _ hlev ⟨σ, hsh5, hso5.weights hσ fun k hk => ?_, fun k _ => rfl⟩
              simp only [catF]
              by_cases hkn : k < n
              · rw [if_pos hkn, if_pos hkn, if_pos hkn, (hF1 k hkn).1]
              · rw [if_neg hkn, if_neg hkn, if_pos (by omega), (hG (k - n) (by omega)).1]
            · refine ⟨_, hT5, fun k hk => ?_⟩
              have := hσ k hk
              simp only [catF]
              by_cases hkn : σ k < n
              · simp only [if_pos hkn]
                exact ⟨(hF1 _ hkn).1, Tree.to hfw _ _ (hF1 _ hkn).2⟩
              · simp only [if_neg hkn, if_pos (show σ k - n < m by omega)]
                obtain ⟨q1, q2⟩ := hG (σ k - n) (by omega)
                exact ⟨q1, Tree.to f5.nil _ _ q2⟩
            · obtain ⟨F, q1, q2⟩ := hRL
              exact ⟨F, q1.to (l := []) ((Fr.of_below hbel).trans f5) (by simp), fun k hk => ⟨(q2 k hk).1, Tree.to hfw _ _ (q2 k hk).2⟩⟩
            · intro k hk
              have h1 := hσ k hk
              simp only
              by_cases hkn : σ k < n
              · rw [if_pos hkn]
                exact Nat.le_trans (hLw _) (Nat.le_trans (by decide : 1073741824 ≤ 2 ^ 30) (Nat.pow_le_pow_right (by decide) (by omega)))
              · rw [if_neg hkn, ← (hG (σ k - n) (by omega)).1]
                exact hG1 _ (by omega)
            · exact f5.blk ((Fr.of_below (l := []) hbel).blk hvar (by simp)) (by simp)
            · exact (hlens.to (Fr.of_below (l := []) hbel) (by simp)).to f5 (by simp)
            · exact hf.trans ((Fr.of_below hbel).trans f5)
          case measure => simp [intOf]; omega
    · have hjd : decide ((j : Int) < limit - 1) = false := by simp; omega
      have hje : (j : Int) = limit - 1 := by omega
      obtain ⟨hgl, hb1, hL, hLw⟩ := HL.out
      have hLl : (List.range n).map L = (sortC l).map leafP := by
        have := leafs_of (l := l) (by rw [HS.out.2.2.1]; exact H1.out.2.2.2.1) (by rw [HS.out.2.2.1]; exact H1.out.2.2.2.2.1)
        rw [← this, HS.out.2.2.1, hL, List.map_map]
        rfl
      obtain ⟨n2, hn2e⟩ : ∃ n2, 2 * n = n2 := ⟨_, rfl⟩
      obtain ⟨K, hKe⟩ : ∃ K, n2 - 2 = K := ⟨_, rfl⟩
      have e1 : (2 : Int) * (n : Int) = (n2 : Int) := by omega
      have e2 : (n2 : Int) - 2 = (K : Int) := by omega
      have hKr : K ≤ r := by
        have h4 := lev_room PT.node ((List.range n).map L) j 2 (by
          have := need_room (n := n) (k := limit.toNat) (by rw [HS.out.2.2.2]; omega)
          rw [List.length_map, List.length_range]
          rw [show limit.toNat = j + 1 by omega, Nat.pow_succ] at this
          omega)
        rw [hlev.len (by rw [hLl]; exact sortC_srt l), List.length_map, List.length_range] at h4
        omega
      have hK1 : (K : Int) ≤ (cr : Int) := by omega
      have hn2b : (n2 : Int) ≤ 640 := by omega
      have hn2c : 4 ≤ (n2 : Int) := by omega
      have hK2 : (K : Int) ≤ 640 := by omega
      have hK0 : 2 ≤ (K : Int) := by omega
      have HO := Lib.hid (fun k (hk : k ≤ r) s => hlev.occs hLl k hk s)
      have HE := Lib.hid (And.intro hje (And.intro hn2e (And.intro hKe (And.intro hKr hrc))))
      have HR := Lib.hid (And.intro hR (And.intro hlev (And.intro hw (And.intro hgr (And.intro hgb (And.intro hvar (And.intro hlens hf)))))))
      clear hR hlev hL hw hgr hgb hvar hlens hf hje hn2e hKe hKr hrc hrn hr2 hLw hLl hj hjl
      subst hgl
      subst hb1
      obtain ⟨wo, hwo⟩ : ∃ wo, wo = wr := ⟨wr, rfl⟩
      subst hwo
      go_wp2_with fail
      go_loopw [104] (fun v104 wr => LastR w w1.heap.size (w1.heap.size + 1) wo.heap.size gr l.length r K A v104 wr) (fun v104 _ => K - (intOf v104).toNat)
      case atStart =>
        obtain ⟨hR, hlev, hw, hgr, hgb, hvar, hlens, hf⟩ := HR.out
        have hA := Fr.alloc [] wo (.cells #[.func (.func 48) #[] #[.pointer (some ⟨w1.heap.size + 1, 0, none⟩), .pointer (some ⟨wo.heap.size, 0, none⟩)]] 105)
        have hgl := lt_of hlens
        exact ⟨0, rfl, Nat.zero_le _, hR.to hA.nil hgr, ⟨hA.blk hvar (by simp), new_of _ _, by omega, by omega⟩, hlens.to hA (by simp), hf.trans hA⟩
      case round =>
        obtain ⟨k, rfl, hk, hR2, hM, hN, hf2⟩ := hrel
        by_cases hkK : k < K
        · have hki : (k : Int) < (K : Int) := by omega
          obtain ⟨F, hF1, hF2⟩ := hR2
          have hkr : k < r := by have := HE.out.2.2.2.1; omega
          have c0 := hF1.c0 k hkr
          have c1 := hF1.c1 k hkr
          have c2 := hF1.c2 k hkr
          obtain ⟨⟨xw, xs, xt⟩, hX⟩ : ∃ z, F k = z := ⟨_, rfl⟩
          have tP := hF2 k hkr
          rw [hX] at c0 c1 c2 tP
          simp only at c0 c1 c2
          have hM0 := hM
          have d2 := cell_of hM.h2 0
          have b2lt := lt_of hM.h2
          have hglt := lt_of hF1.choose_spec
          have hA := Fr.alloc [] wr (.cells (Te ⟨xw, xs, xt⟩).toArray 102)
          have o1 := HO.out (k + 1) (by omega)
          have HM := Lib.hid (meet_any (w1.heap.size + 1) wo.heap.size w1.heap.size l.length l.length (by omega) (A k).2 ⟨xw, xs, xt⟩ (sumOcc A k) _ (Tree.to hA.nil _ _ tP.2) (hM.to hA.nil) (hN.to hA (by simp)) (fun s h => (o1 s).2.2 (by simp only [sumOcc]; omega)) (fun s => by have := (o1 s).2.1; have := HE.out.1; simp only [sumOcc] at *; omega))
          have HH := Lib.hid (And.intro hF1 (And.intro hF2 (And.intro hM0 (And.intro hf2 (And.intro hA o1)))))
          simp at d2
          simp only [Te, tv] at HM HH
          clear hF1 hF2 hM hM0 hN hf2 hX tP hA o1
          go_wp2_with fail
          refine HM.out.mono ?_
          rintro e w3 ⟨rfl, hN3, f3⟩
          have H3 := Lib.hid (And.intro hN3 f3)
          clear hN3 f3 HM d2
          go_wp2_with fail
          go_roundw
          case rel =>
            obtain ⟨hN3, f3⟩ := H3.out
            obtain ⟨hF1, hF2, hM0, hf2, hA, o1⟩ := HH.out
            have hgr := HR.out.2.2.2.1
            have hfw := hA.nil.trans f3
            refine ⟨k + 1, by go_num, by omega, ⟨F, hF1.to hfw (by simpa using hgr), fun i hi => ⟨(hF2 i hi).1, Tree.to hfw _ _ (hF2 i hi).2⟩⟩, hM0.to hfw, hN3.congr fun i _ => rfl, ?_⟩
            exact f3.outL (hf2.trans hA) fun i hi => .inr (by
              have : i = w1.heap.size := by simpa using hi
              rw [this]; exact H1.out.1.size)
          case measure => simp [intOf]; omega
        · have hkd : decide (k < K) = false := by simp; omega
          have hkK2 : k = K := by omega
          subst hkK2
          have c1 := cell_of hM.h1 0
          simp at c1
          have HH := Lib.hid (And.intro hN hf2)
          clear hR2 hM hN hf2
          go_wp2_with fail
          go_ret2
          refine ⟨w1.heap.size, rfl, H1.out.1.size, HH.out.1.congr fun s _ => ?_, HH.out.2⟩
          obtain ⟨q1, q2, q3, q4, q5⟩ := HE.out
          rw [(HO.out k q4 s).1]
          unfold lensN lenOf
          rw [List.length_map, sortC_length, HS.out.2.2.1, show limit.toNat - 1 = j by omega, q2, q3]
end Go.Proofs.Ytciejmlhdmjajaa

