/- Package mods: where two pages differ, as an iterator. -/
import Derived.Test.YtoicdepkakgedaaMj
import Derived.RangeFuncBox
import Derived.RangeFuncLeaves
import Derived.Shelf.Abstract
import Derived.Shelf.RegionOpen
import Derived.Sort.QuietIn
import Derived.OwnWalkIn
import Derived.TacticsInMore
import Derived.LoopNIn
import Derived.LoopIn
namespace Go.Proofs.Ytoicdepkakgedaa
open Go.RowKit Go.Shelf
set_option linter.unusedVariables false
set_option linter.unusedSimpArgs false
attribute [local go_sem] Oper.semAt_some

/-- A run within so many bytes. -/
structure Rn (n : Nat) where
  r : Nat × Nat
  h : r.1 ≤ r.2 ∧ r.2 ≤ n
def Rn.encs {n : Nat} (x : Rn n) : Array Value := #[.int .i64 (x.r.1 : Int), .int .i64 (x.r.2 : Int)]
def Kp2 (x y : Nat) (A B : World) : Prop := B.heap[x]? = A.heap[x]? ∧ B.heap[y]? = A.heap[y]?
def openF : Option (Nat × Nat) → Int
  | none => -1
  | some r => r.1
def openT : Option (Nat × Nat) → Int
  | none => -1
  | some r => r.2

theorem runs_in (a b : ByteArray) (w : World) : Calls Try.prog 35 #[.string a, .string b] w fun e w' => e = .returned (.func (.func 37) #[] #[.pointer (some ⟨w.heap.size, 0, none⟩), .pointer (some ⟨w.heap.size + 1, 0, none⟩)]) ∧ w' = (w.alloc (.cells #[.string a] 9)).alloc (.cells #[.string b] 9) := by
  go_enter Try.func35, Try.ntmps35
  go_wp2
  go_ret
  exact ⟨rfl, rfl⟩

theorem J_drew {α : Type} {B : Nat} {J : List α → World → Prop} (hJ : AbidesFrom B J) {s : List α} {A : World} (h : J s A) (n : Nat) : J s (A.drewN n) := hJ s A _ none h ⟨rfl, rfl, rfl, Nat.le_refl _, fun _ _ _ => rfl⟩ (by simp)

set_option maxRecDepth 2000000 in
set_option maxHeartbeats 1600000 in
theorem runs_stops (n : Nat) (a b : ByteArray) (ha : a.size ≤ 1000000000) (hab : a.size = b.size) (x y : Nat) (w : World) (hx : w.heap[x]? = some (.cells #[.string a] 9 (0, 0))) (hy : w.heap[y]? = some (.cells #[.string b] 9 (0, 0))) :
    SeqStopsK Fence.wide n Try.prog 37 #[.pointer (some ⟨x, 0, none⟩), .pointer (some ⟨y, 0, none⟩)] (Rn.encs (n := a.size)) (Kp2 x y) (fun ys => ys.map Rn.r = dlist (differs a b) a.size) (fun _ => True) (a.size + 1) w := fun l J Jx W hW hJ hJx hY h0 => by
  have hxW : W.heap[x]? = some (.cells #[.string a] 9 (0, 0)) := (hW.block x (lt_of hx)).trans hx
  have hyW : W.heap[y]? = some (.cells #[.string b] 9 (0, 0)) := (hW.block y (lt_of hy)).trans hy
  have kx := cell_of hxW 0
  have hai : (a.size : Int) ≤ 1000000000 := by omega
  have HB := Lib.hid (And.intro hxW (And.intro hyW (And.intro hab (And.intro hJ hY))))
  clear hx hy hxW hyW hY hJ hJx hW hab
  have H0 := Lib.hid h0
  clear h0
  refine callsIn_of_wp Try.func37 rfl trivial ?_ rfl
  simp only [Try.ntmps37, List.size_toArray, List.length_cons, List.length_nil, Nat.reduceAdd, Nat.reduceSub, Array.replicate_succ, Array.replicate_zero, List.push_toArray, List.append_toArray, List.nil_append, List.cons_append]
  gi_wp2
  gi_loopw [4, 5, 9] (fun fr to i wr => ∃ (k : Nat) (pre : List (Rn a.size)) (o : Option (Nat × Nat)), k ≤ a.size ∧ i = .int .i64 k ∧ fr = .int .i64 (openF o) ∧ to = .int .i64 (openT o) ∧ dfold (differs a b) k = (pre.map Rn.r, o) ∧ pre.length ≤ k ∧ J pre wr ∧ wr.heap[x]? = some (.cells #[.string a] 9 (0, 0)) ∧ wr.heap[y]? = some (.cells #[.string b] 9 (0, 0))) (fun _ _ i _ => a.size - (intOf i).toNat)
  case atStart => exact ⟨0, [], none, Nat.zero_le _, rfl, rfl, rfl, rfl, by simp, H0.out, HB.out.1, HB.out.2.1⟩
  case round =>
    obtain ⟨k, pre, o, hk, rfl, rfl, rfl, hpre, hpl, hJs, hxr, hyr⟩ := hrel
    clear kx
    have H1 := Lib.hid (And.intro hpre (And.intro hJs (And.intro hxr hyr)))
    have kx := cell_of hxr 0
    have ky := cell_of hyr 0
    have HI := Lib.hid (dinv (differs a b) k)
    clear hpre hJs hxr hyr
    rcases Nat.lt_or_ge k a.size with hlt | hge
    · have hki : (k : Int) < (a.size : Int) := by omega
      obtain ⟨p, q, p0, q0, he1, he2⟩ := two_bytes a b k hlt (by have := HB.out.2.2.1; omega)
      cases hd : differs a b k with
      | false =>
        rw [hd] at he1
        simp only [Bool.not_false] at he1
        have HN := Lib.hid (show dfold (differs a b) (k + 1) = (pre.map Rn.r, o) by rw [dfold_skip (differs a b) k (k + 1) (by omega) (fun j h1 h2 => by rw [show j = k by omega]; exact hd)]; exact H1.out.1)
        clear hd he2
        gi_wp2
        gi_quiet (fail)
        clear p0 q0 he1
        have H2 := Lib.hid (And.intro (J_drew HB.out.2.2.2.1 H1.out.2.1 nq) (And.intro (show (wr.drewN nq).heap[x]? = _ from H1.out.2.2.1) (show (wr.drewN nq).heap[y]? = _ from H1.out.2.2.2)))
        generalize wr.drewN nq = W4 at *
        gi_wp2
        go_roundw
        case rel => exact ⟨k + 1, pre, o, by omega, by go_num, rfl, rfl, HN.out, by omega, H2.out.1, H2.out.2.1, H2.out.2.2⟩
        case measure => simp [intOf]; omega
      | true =>
        rw [hd] at he1
        simp only [Bool.not_true] at he1
        have HS := Lib.hid (show dfold (differs a b) (k + 1) = dstep (differs a b) (pre.map Rn.r, o) k by rw [dfold, H1.out.1])
        have HD := Lib.hid hd
        clear hd he2
        gi_wp2
        gi_quiet (fail)
        clear p0 q0 he1
        have H2 := Lib.hid (And.intro (J_drew HB.out.2.2.2.1 H1.out.2.1 nq) (And.intro (show (wr.drewN nq).heap[x]? = _ from H1.out.2.2.1) (show (wr.drewN nq).heap[y]? = _ from H1.out.2.2.2)))
        clear kx ky
        generalize wr.drewN nq = W4 at *
        cases o with
        | none =>
          simp only [openF, openT]
          gi_wp2
          go_roundw
          case rel => exact ⟨k + 1, pre, some (k, k + 1), by omega, by go_num, rfl, by simp only [openT]; go_num, by rw [HS.out, dstep, HD.out]; rfl, by omega, H2.out.1, H2.out.2.1, H2.out.2.2⟩
          case measure => simp [intOf]; omega
        | some r =>
          obtain ⟨f, t⟩ := r
          simp only [openF, openT]
          have hok := HI.out.1.ok (f, t) (by rw [H1.out.1]; simp)
          have hf0 : 0 ≤ (f : Int) := by omega
          have hft : f ≤ t := by have := hok.1; simp only at this; omega
          have htk : t ≤ k := hok.2.1
          clear hok
          by_cases hgap : t + 4 < k
          · have hgi : 4 < (k : Int) - (t : Int) := by omega
            have HS2 := Lib.hid (show dfold (differs a b) (k + 1) = (pre.map Rn.r ++ [(f, t)], some (k, k + 1)) by rw [HS.out, dstep, HD.out]; simp [hgap])
            obtain ⟨fn, tmps, assign, body, hy, hR⟩ := HB.out.2.2.2.2 pre ⟨(f, t), hft, by omega⟩ W4 H2.out.1 (by omega)
            dsimp only [Rn.encs] at hy
            have HR := Lib.hid hR
            clear hR
            gi_wp2
            refine ⟨fun h => absurd h (by simp [Fence.wide]), HR.out.mono ?_⟩
            rintro e W5 (⟨rfl, hJ5, hk5⟩ | ⟨rfl, hx5⟩)
            · have H5 := Lib.hid (And.intro hJ5 (And.intro (hk5.1.trans H2.out.2.1) (hk5.2.trans H2.out.2.2)))
              clear hJ5 hk5 hy
              gi_wp2
              go_roundw
              case rel => exact ⟨k + 1, pre ++ [⟨(f, t), hft, by omega⟩], some (k, k + 1), by omega, by go_num, rfl, by simp only [openT]; go_num, by rw [HS2.out, List.map_append]; rfl, by rw [List.length_append]; show pre.length + 1 ≤ k + 1; omega, H5.out.1, H5.out.2.1, H5.out.2.2⟩
              case measure => simp [intOf]; omega
            · have H5 := Lib.hid hx5
              clear hx5 hy
              gi_wp2
              refine bodyPost_ret (results_none rfl _ _ _) rfl ?_
              exact ⟨⟨_, rfl⟩, .inr ⟨_, trivial, H5.out⟩⟩
          · have hgi : (k : Int) - (t : Int) ≤ 4 := by omega
            have HS2 := Lib.hid (show dfold (differs a b) (k + 1) = (pre.map Rn.r, some (f, k + 1)) by rw [HS.out, dstep, HD.out]; simp [hgap])
            clear hgap
            gi_wp2
            go_roundw
            case rel => exact ⟨k + 1, pre, some (f, k + 1), by omega, by go_num, rfl, by simp only [openT]; go_num, HS2.out, by omega, H2.out.1, H2.out.2.1, H2.out.2.2⟩
            case measure => simp [intOf]; omega
    · have hke : k = a.size := by omega
      subst hke
      cases o with
      | none =>
        simp only [openF, openT]
        gi_wp2
        go_end0
        exact ⟨⟨_, rfl⟩, .inl ⟨pre, by unfold dlist; rw [H1.out.1]; simp, H1.out.2.1⟩⟩
      | some r =>
        obtain ⟨f, t⟩ := r
        simp only [openF, openT]
        have hok := HI.out.1.ok (f, t) (by rw [H1.out.1]; simp)
        have hf0 : 0 ≤ (f : Int) := by omega
        have hft : f ≤ t := by have := hok.1; simp only at this; omega
        have htk : t ≤ a.size := hok.2.1
        obtain ⟨fn, tmps, assign, body, hy, hR⟩ := HB.out.2.2.2.2 pre ⟨(f, t), hft, htk⟩ wr H1.out.2.1 (by omega)
        dsimp only [Rn.encs] at hy
        have HR := Lib.hid hR
        clear hR hok
        gi_wp2
        refine ⟨fun h => absurd h (by simp [Fence.wide]), HR.out.mono ?_⟩
        rintro e W5 (⟨rfl, hJ5, hk5⟩ | ⟨rfl, hx5⟩)
        · have H5 := Lib.hid hJ5
          clear hJ5 hk5 hy
          gi_wp2
          go_end0
          exact ⟨⟨_, rfl⟩, .inl ⟨pre ++ [⟨(f, t), hft, htk⟩], by unfold dlist; rw [H1.out.1, List.map_append]; rfl, H5.out⟩⟩
        · have H5 := Lib.hid hx5
          clear hx5 hy
          gi_wp2
          go_end0
          exact ⟨⟨_, rfl⟩, .inr ⟨_, trivial, H5.out⟩⟩
end Go.Proofs.Ytoicdepkakgedaa
