/- Package runs: the runs of code lengths, as an iterator. -/
import Derived.Test.YtciejmlhdmjajaaKHd
import Derived.Test.YtciejmlhdmjajaaKEo
import Derived.Sort.CutIn
namespace Go.Proofs.Ytciejmlhdmjajaa
open Go.RowKit Go.Shelf
set_option linter.unusedVariables false
set_option linter.unusedSimpArgs false
attribute [local go_sem] Oper.semAt_some

def runL (v n : Nat) : List (Nat × Nat) :=
  if v = 0 then repL 18 n ++ (repL 17 (repR 18 n) ++ List.replicate (repR 17 (repR 18 n)) (0, 0))
  else (v, 0) :: (repL 16 (n - 1) ++ List.replicate (repR 16 (n - 1)) (v, 0))
def sameN (v : Nat) : List Nat → Nat
  | [] => 0
  | x :: l => if x = v then sameN v l + 1 else 0
theorem sameN_le (v : Nat) : ∀ l, sameN v l ≤ l.length
  | [] => Nat.le_refl _
  | x :: l => by unfold sameN; have := sameN_le v l; split <;> simp <;> omega
theorem sameN_get (v : Nat) : ∀ l i, i < sameN v l → l[i]? = some v
  | [], i, h => by simp [sameN] at h
  | x :: l, i, h => by
    unfold sameN at h
    split at h
    · cases i with
      | zero => subst_vars; rfl
      | succ i => simpa using sameN_get v l i (by omega)
    · omega
theorem sameN_stop (v : Nat) : ∀ l, sameN v l < l.length → ∃ y, l[sameN v l]? = some y ∧ y ≠ v
  | [], h => by simp [sameN] at h
  | x :: l, h => by
    unfold sameN at h ⊢
    split
    · rename_i hx
      rw [if_pos hx] at h
      obtain ⟨y, h1, h2⟩ := sameN_stop v l (by simpa using h)
      exact ⟨y, by simpa using h1, h2⟩
    · rename_i hx
      exact ⟨x, rfl, hx⟩
def packF : Nat → List Nat → List (Nat × Nat)
  | 0, _ => []
  | _, [] => []
  | f + 1, v :: l => runL v (sameN v l + 1) ++ packF f (l.drop (sameN v l))
def packL (l : List Nat) : List (Nat × Nat) := packF l.length l
theorem packF_fuel : ∀ f g l, l.length ≤ f → l.length ≤ g → packF f l = packF g l
  | 0, 0, l, _, _ => rfl
  | 0, g + 1, l, h, _ => by
    have : l = [] := List.length_eq_zero_iff.1 (by omega)
    subst this; rfl
  | f + 1, 0, l, _, h => by
    have : l = [] := List.length_eq_zero_iff.1 (by omega)
    subst this; rfl
  | f + 1, g + 1, [], _, _ => rfl
  | f + 1, g + 1, v :: l, h1, h2 => by
    simp only [packF]
    rw [packF_fuel f g _ (by rw [List.length_drop]; simp at h1; omega) (by rw [List.length_drop]; simp at h2; omega)]
theorem packL_cons (v : Nat) (l : List Nat) : packL (v :: l) = runL v (sameN v l + 1) ++ packL (l.drop (sameN v l)) := by
  show packF (l.length + 1) (v :: l) = _
  simp only [packF]
  rw [packF_fuel l.length (l.drop (sameN v l)).length _ (by rw [List.length_drop]; omega) (Nat.le_refl _)]
  rfl
theorem runL_len (v n : Nat) (hn : 1 ≤ n) : (runL v n).length ≤ n := by
  unfold runL
  split
  · have h1 := repL_len 18 n
    have h2 := repL_len 17 (repR 18 n)
    rw [List.length_append, List.length_append, List.length_replicate]
    omega
  · have h1 := repL_len 16 (n - 1)
    rw [List.length_cons, List.length_append, List.length_replicate]
    omega
theorem packL_len : ∀ l : List Nat, (packL l).length ≤ l.length := by
  intro l
  generalize hn : l.length = n
  induction n using Nat.strongRecOn generalizing l with
  | _ n ih =>
    cases l with
    | nil => simp [packL, packF]
    | cons v l =>
      rw [packL_cons, List.length_append]
      have h1 := runL_len v (sameN v l + 1) (by omega)
      have h2 := sameN_le v l
      simp at hn
      have h3 := ih (l.drop (sameN v l)).length (by rw [List.length_drop]; omega) _ rfl
      rw [List.length_drop] at h3
      omega
/-- How long the slice in a box is. -/
def boxLen (w : World) (x : Nat) : Nat := match w.cell? ⟨x, 0, none⟩ with
  | some (.slice _ n _) => n
  | _ => 0
theorem boxLen_of {w : World} {x : Nat} {a : Option Addr} {n c : Nat} {T : TypeId} (h : w.heap[x]? = some (.cells #[.slice a n c] T (0, 0))) : boxLen w x = n := by
  unfold boxLen
  rw [cell_of h 0]
  rfl
set_option maxRecDepth 2000000 in
set_option maxHeartbeats 3200000 in
theorem told_iter (n : Nat) (a : Option Addr) (c : Nat) (l : List Nat) (x : Nat) (w : World) (hs : SlOf U8 1 w a l) (hc : l.length ≤ c) (hl : l.length ≤ 10000) (h8 : ∀ v ∈ l, v < 256) (hx : w.heap[x]? = some (.cells #[.slice a l.length c] 25 (0, 0))) (hxa : x ∉ tokB a l) :
    IterF n Try.prog 89 #[.pointer (some ⟨x, 0, none⟩)] RunO.encs [x] (tokB a l) (fun ys => ys.map RunO.p = packL l) l.length w := fun y J M0 W hW hyl hyW hM hJM hJ hY h0 => by
  have hxW : W.heap[x]? = some (.cells #[.slice a l.length c] 25 (0, 0)) := (hW.block x (lt_of hx)).trans hx
  have hsW := hs.below hW
  have hS : ∀ k, k ∈ x :: tokB a l → k < w.heap.size := fun k hk => by
    rcases List.mem_cons.1 hk with rfl | hk
    · exact lt_of hx
    · exact hs.lt k hk
  have hsz := hW.size
  have HB := Lib.hid (And.intro hJ (And.intro hY (And.intro hS (And.intro hyl (And.intro hsz (And.intro hxa (And.intro hc (And.intro h8 (And.intro hl hJM)))))))))
  have HS := Lib.hid (And.intro hxW (And.intro hsW (And.intro h0 fun i hi => hM i hi)))
  clear hx hxW hsW hY hJ hW hs hS hyl hM h0 hsz hxa hc h8 hl hJM
  refine callsIn_of_wp Try.func89 rfl trivial ?_ rfl
  simp only [Try.ntmps89, List.size_toArray, List.length_cons, List.length_nil, Nat.reduceAdd, Nat.reduceSub, Array.replicate_succ, Array.replicate_zero, List.push_toArray, List.append_toArray, List.nil_append, List.cons_append]
  gi_wp2_with fail
  gi_loopw [3, 4, 5] (fun v3 v4 v5 wr => ∃ (pre : List RunO) (M : List Nat) (rest : List Nat) (a' : Option Addr) (c' : Nat), Hid (pre.map RunO.p ++ packL rest = packL l) ∧ J pre M wr ∧ wr.heap[x]? = some (.cells #[.slice a' rest.length c'] 25 (0, 0)) ∧ SlOf U8 1 wr a' rest ∧ rest.length ≤ c' ∧ rest.length ≤ l.length ∧ Hid ((∀ v, v ∈ rest → v < 256) ∧ (∀ i, i ∈ M → i < wr.heap.size ∧ i ∉ x :: tokB a l) ∧ (∀ i, i ∈ tokB a' rest → i ∈ tokB a l) ∧ W.heap.size ≤ wr.heap.size)) (fun _ _ _ wr => boxLen wr x)
  case atStart => exact ⟨[], M0, l, a, c, Lib.hid rfl, HS.out.2.2.1, HS.out.1, HS.out.2.1, HB.out.2.2.2.2.2.2.1, Nat.le_refl _, Lib.hid ⟨HB.out.2.2.2.2.2.2.2.1, fun i hi => ⟨(HS.out.2.2.2 i hi).2.2, by have := HS.out.2.2.2 i hi; simp at this ⊢; exact ⟨this.1, this.2.1⟩⟩, fun i hi => hi, Nat.le_refl _⟩⟩
  case round =>
    obtain ⟨pre, M, rest, a', c', hp, hj, hxr, hsr, hcr, hlr, hq⟩ := hrel
    have kx := cell_of hxr 0
    simp at kx
    cases rest with
    | nil =>
      have HE := Lib.hid (And.intro (show pre.map RunO.p = packL l by have := hp.out; simpa [packL, packF] using this) hj)
      simp only [List.length_nil] at kx
      clear hp hj hxr hsr hcr hlr hq
      gi_wp2_with fail
      go_end0
      exact ⟨⟨_, rfl⟩, pre, M, HE.out.1, HE.out.2⟩
    | cons v rest =>
      obtain ⟨b, o, rfl, hbl, hcell⟩ := hsr (by simp)
      obtain ⟨q8, qM, qB, qW⟩ := hq.out
      have c0 := hcell 0 v rfl 0 (.int .u8 (v : Int)) rfl
      simp only [Nat.zero_mul, Nat.add_zero] at c0
      have hv8 : (v : Int) ≤ 255 := by have := q8 v (by simp); omega
      obtain ⟨L, hL⟩ : ∃ L, (v :: rest).length = L := ⟨_, rfl⟩
      rw [hL] at kx hxr hcr hlr
      have hL1 : 1 ≤ (L : Int) := by simp at hL; omega
      have hLl : (L : Int) ≤ 10000 := by have := HB.out.2.2.2.2.2.2.2.2.1; omega
      have HC := Lib.hid hcell
      have HH := Lib.hid (And.intro hp.out (And.intro hj (And.intro hxr (And.intro hcr (And.intro hlr (And.intro hL (And.intro q8 (And.intro qM (And.intro qB qW)))))))))
      have hsr := Lib.hid hsr
      clear hp hj hxr hcr hlr hq q8 qM qB qW hcell
      gi_upto_region 2 with fail
      gi_step
      gi_step
      go_simp
      gi_step
      go_simp
      gi_step
      gi_step
      gi_step
      gi_step
      gi_cut [4] from 12 (fun v4 wz => v4 = .int .i64 ((sameN v rest + 1 : Nat) : Int) ∧ wz = wr)
      case first =>
        gi_step
        gi_loopw [4] (fun v4 wz => ∃ k : Nat, v4 = .int .i64 (k : Int) ∧ 1 ≤ k ∧ k ≤ sameN v rest + 1 ∧ wz = wr) (fun v4 _ => L - (intOf v4).toNat)
        case atStart => exact ⟨1, rfl, by omega, by omega, rfl⟩
        case round =>
          obtain ⟨k, rfl, hk1, hks, rfl⟩ := hrel
          have hsl := sameN_le v rest
          have hLr : L = rest.length + 1 := by have := HH.out.2.2.2.2.2.1; simpa using this.symm
          by_cases hkL : k < L
          · have hki : (k : Int) < (L : Int) := by omega
            obtain ⟨j, rfl⟩ : ∃ j, k = j + 1 := ⟨k - 1, by omega⟩
            obtain ⟨z, hz⟩ : ∃ z, rest[j]? = some z := ⟨rest[j]'(by omega), List.getElem?_eq_getElem _⟩
            have ck := HC.out (j + 1) z (by simpa using hz) 0 (.int .u8 (z : Int)) rfl
            rw [Nat.mul_one, Nat.add_zero] at ck
            obtain ⟨k, hkj⟩ : ∃ k, j + 1 = k := ⟨_, rfl⟩
            by_cases hzv : z = v
            · subst hzv
              have hkn : j + 1 ≤ sameN z rest := by
                rcases Nat.lt_or_ge j (sameN z rest) with h | h
                · omega
                · exfalso
                  have h1 : sameN z rest = j := by omega
                  obtain ⟨u, h2, h3⟩ := sameN_stop z rest (by omega)
                  rw [h1, hz] at h2
                  exact h3 (by simpa using h2.symm)
              rw [hkj] at hki ck hkn ⊢
              have HK := Lib.hid hkn
              clear hkj hz hks hk1 hsl hLr hkn
              gi_wp2_with fail
              exact ⟨⟨k + 1, by go_num, by omega, by have := HK.out; omega, trivial⟩, by simp [intOf]; omega⟩
            · have hkn : j + 1 = sameN v rest + 1 := by
                rcases Nat.lt_or_ge j (sameN v rest) with h | h
                · have h1 := sameN_get v rest j h
                  rw [hz] at h1
                  exact absurd (by simpa using h1) hzv
                · omega
              have hzi : ((z : Int) == (v : Int)) = false := by rw [beq_eq_false_iff_ne]; omega
              rw [hkj] at hki ck hkn ⊢
              have HK := Lib.hid hkn
              clear hkj hz hks hk1 hsl hLr hkn hzv
              gi_wp2_with fail
              gi_meet
              case rel => exact ⟨by rw [HK.out], rfl⟩
          · have hki : (L : Int) ≤ (k : Int) := by omega
            have HK := Lib.hid (show k = sameN v rest + 1 by omega)
            clear hks hk1 hsl hLr
            gi_wp2_with fail
            gi_meet
            case rel => exact ⟨by rw [HK.out], rfl⟩
      case rest =>
      obtain ⟨rfl, rfl⟩ := hcut
      obtain ⟨N, hN⟩ : ∃ N, sameN v rest + 1 = N := ⟨_, rfl⟩
      obtain ⟨hp, hj, hxr, hcr, hlr, hL, q8, qM, qB, qW⟩ := HH.out
      have hsl := sameN_le v rest
      have hNL : N ≤ L := by simp at hL; omega
      rw [hN]
      have f0 := free_of hxr 0
      have hNi : (N : Int) ≤ (L : Int) := by omega
      have hNc : (N : Int) ≤ (c' : Int) := by omega
      have HLEN := Lib.hid (show pre.length + (runL v N).length + (packL (rest.drop (sameN v rest))).length ≤ l.length by
        have h1 := congrArg List.length hp
        rw [packL_cons, List.length_append, List.length_append, List.length_map, hN] at h1
        have := packL_len l
        omega)
      have HP := Lib.hid (show pre.map RunO.p ++ (runL v N ++ packL (rest.drop (sameN v rest))) = packL l by rw [← hN, ← packL_cons]; exact hp)
      obtain ⟨a2, ha2⟩ : ∃ a2, (if c' = N then some (⟨b, o, none⟩ : Addr) else some ⟨b, o + N, none⟩) = a2 := ⟨_, rfl⟩
      have HA2 := Lib.hid ha2
      obtain ⟨V, hV⟩ : ∃ V, wc.setCell ⟨x, 0, none⟩ (.slice a2 (L - N) (c' - N)) = V := ⟨_, rfl⟩
      have HV := Lib.hid hV
      have fV : Fr [x] wc V := by rw [← hV]; exact Fr.setCell _ _ _ _
      have xV : V.heap[x]? = some (.cells #[.slice a2 (L - N) (c' - N)] 25 (0, 0)) := by
        rw [← hV]
        have := set_of hxr 0 (.slice a2 (L - N) (c' - N))
        simpa using this
      have jV : J pre M V := HB.out.1 _ _ _ _ _ hj fV (by simp)
      have hzV := fV.size
      have HVV := Lib.hid (And.intro fV (And.intro xV (And.intro jV (And.intro (show ∀ i, i ∈ M → i < V.heap.size ∧ i ∉ x :: tokB a l from fun i hi => ⟨Nat.lt_of_lt_of_le (qM i hi).1 hzV, (qM i hi).2⟩) (Nat.le_trans qW hzV)))))
      have HN := Lib.hid hN
      clear hp hj hxr hcr hlr hL q8 qM qB qW hsl hN fV xV jV hzV
      gi_upto_if 30 with fail
      skip
      clear ha2 hV f0 kx c0
      gi_cut [4, 5] from 30 (fun v4 v5 wz => ∃ (ys : List RunO) (M1 : List Nat) (r : Nat), v4 = .int .i64 (r : Int) ∧ r ≤ 10000 ∧ v5 = .bool true ∧ Hid (ys.map RunO.p ++ List.replicate r (v, 0) = runL v N ∧ J (pre ++ ys) M1 wz ∧ Fr (y :: M) V wz ∧ ∀ i, i ∈ M1 → i ∈ M ∨ V.heap.size ≤ i))
      case first =>
        have hy := HB.out.2.2.2.1
        have hN10 : N ≤ 10000 := by omega
        by_cases hv0 : v = 0
        · subst hv0
          have hrl : runL 0 N = repL 18 N ++ (repL 17 (repR 18 N) ++ List.replicate (repR 17 (repR 18 N)) (0, 0)) := by unfold runL; rw [if_pos rfl]
          have hll : pre.length + (repL 18 N).length + (repL 17 (repR 18 N)).length ≤ l.length := by
            have := HLEN.out
            rw [hrl, List.length_append, List.length_append] at this
            omega
          have hr1 := repR_le 18 N
          have hr2 := repR_le 17 (repR 18 N)
          have H18 := Lib.hid (fun m => repeats_18 y J [x] l.length W.heap.size HB.out.2.2.2.2.2.2.2.2.2 HB.out.1 HB.out.2.1 m N (by omega) pre M V HVV.out.2.2.1 (by omega) (by have := HVV.out.2.2.2.2; omega))
          have HRL := Lib.hid (And.intro hrl (And.intro hll (And.intro hr1 (And.intro hr2 hN10))))
          clear hrl hll hr1 hr2 hN10 hy
          gi_wp2_with fail
          refine ⟨trivial, fun h => absurd h (by simp [Fence.wide]), (H18.out _).mono ?_⟩
          rintro e W5 ⟨rfl, ys, M5, hys, hJ5, hf5, hm5⟩
          have H17 := Lib.hid (fun m => repeats_17 y J [x] l.length W.heap.size HB.out.2.2.2.2.2.2.2.2.2 HB.out.1 HB.out.2.1 m (repR 18 N) (by have := HRL.out; omega) (pre ++ ys) M5 W5 hJ5 (by have h1 := congrArg List.length hys; rw [List.length_map] at h1; rw [List.length_append, h1]; exact HRL.out.2.1) (by have := HVV.out.2.2.2.2; have := hf5.size; omega))
          have H5 := Lib.hid (And.intro hys (And.intro hf5 hm5))
          clear hys hJ5 hf5 hm5 H18
          gi_wp2_with fail
          refine ⟨trivial, fun h => absurd h (by simp [Fence.wide]), (H17.out _).mono ?_⟩
          rintro e W6 ⟨rfl, zs, M6, hzs, hJ6, hf6, hm6⟩
          have H6 := Lib.hid (And.intro hzs (And.intro hJ6 (And.intro hf6 hm6)))
          clear hzs hJ6 hf6 hm6 H17
          gi_wp2_with fail
          gi_meet
          case rel =>
            obtain ⟨hys, hf5, hm5⟩ := H5.out
            obtain ⟨hzs, hJ6, hf6, hm6⟩ := H6.out
            obtain ⟨h1, h2, h3, h4, h5⟩ := HRL.out
            have hs5 := hf5.size
            refine ⟨ys ++ zs, M6, _, rfl, by omega, rfl, Lib.hid ⟨by rw [h1, List.map_append, hys, hzs, List.append_assoc], by rw [← List.append_assoc]; exact hJ6, hf6.outL hf5 (by
              intro i hi
              rcases List.mem_cons.1 hi with rfl | hi
              · left; simp
              · rcases hm5 i hi with h | h
                · left; simp [h]
                · right; exact h), fun i hi => by
              rcases hm6 i hi with h | h
              · exact hm5 i h
              · right; omega⟩⟩
        · have hrl : runL v N = (v, 0) :: (repL 16 (N - 1) ++ List.replicate (repR 16 (N - 1)) (v, 0)) := by unfold runL; rw [if_neg hv0]
          have hll : pre.length + 1 + (repL 16 (N - 1)).length ≤ l.length := by
            have := HLEN.out
            rw [hrl, List.length_cons, List.length_append] at this
            omega
          have hvi : ((v : Int) == 0) = false := by rw [beq_eq_false_iff_ne]; omega
          have hr1 := repR_le 16 (N - 1)
          have hN1 : 1 ≤ N := by have := HN.out; omega
          obtain ⟨N', hN'⟩ : ∃ N', N - 1 = N' := ⟨_, rfl⟩
          have eN : (N : Int) - 1 = (N' : Int) := by omega
          rw [hN'] at hrl hll hr1
          obtain ⟨x0, hx0⟩ : ∃ x0 : RunO, x0.p = (v, 0) := ⟨⟨(v, 0), by simp only; omega⟩, rfl⟩
          have he : x0.encs = #[.agg #[.int .u8 (v : Int), .int .u8 0]] := by unfold RunO.encs; rw [hx0]; rfl
          obtain ⟨fn, tmps, assign, body, hy1, hR⟩ := HB.out.2.1 pre x0 M V HVV.out.2.2.1 (by omega) (n - 1)
          rw [he] at hy1
          have HR := Lib.hid hR
          have HRL := Lib.hid (And.intro hrl (And.intro hll (And.intro hr1 (show N' ≤ 10000 by omega))))
          have HX0 := Lib.hid hx0
          clear hrl hll hr1 hN10 hy hR he hv0 hN1 hN' hx0
          gi_wp2_with fail
          refine ⟨fun h => absurd h (by simp [Fence.wide]), HR.out.mono ?_⟩
          rintro e W5 ⟨rfl, M5, hJ5, hf5, hm5⟩
          have H16 := Lib.hid (fun m => repeats_16 y J [x] l.length W.heap.size HB.out.2.2.2.2.2.2.2.2.2 HB.out.1 HB.out.2.1 m N' (by have := HRL.out; omega) (pre ++ [x0]) M5 W5 hJ5 (by rw [List.length_append]; exact HRL.out.2.1) (by have := HVV.out.2.2.2.2; have := hf5.size; omega))
          have H5 := Lib.hid (And.intro hf5 hm5)
          clear hJ5 hf5 hm5 hy1
          gi_wp2_with fail
          refine ⟨trivial, fun h => absurd h (by simp [Fence.wide]), (H16.out _).mono ?_⟩
          rintro e W6 ⟨rfl, zs, M6, hzs, hJ6, hf6, hm6⟩
          have H6 := Lib.hid (And.intro hzs (And.intro hJ6 (And.intro hf6 hm6)))
          clear hzs hJ6 hf6 hm6 H16
          gi_wp2_with fail
          gi_meet
          case rel =>
            obtain ⟨hf5, hm5⟩ := H5.out
            obtain ⟨hzs, hJ6, hf6, hm6⟩ := H6.out
            obtain ⟨h1, h2, h3, h4⟩ := HRL.out
            have hs5 := hf5.size
            refine ⟨x0 :: zs, M6, _, rfl, by omega, rfl, Lib.hid ⟨by rw [h1, List.map_cons, hzs, HX0.out, List.cons_append], by have := hJ6; rwa [List.append_assoc] at this, hf6.outL hf5 (by
              intro i hi
              rcases List.mem_cons.1 hi with rfl | hi
              · left; simp
              · rcases hm5 i hi with h | h
                · left; simp [h]
                · right; exact h), fun i hi => by
              rcases hm6 i hi with h | h
              · exact hm5 i h
              · right; omega⟩⟩
      case rest =>
      obtain ⟨ys, M1, r, rfl, hr10, rfl, hq⟩ := hcut
      have hri : (r : Int) ≤ 10000 := by omega
      gi_wp2_with fail
      gi_loopw [4, 5] (fun v4 v5 wz => ∃ (k : Nat) (zs : List RunO) (Mk : List Nat), v4 = .int .i64 (k : Int) ∧ v5 = .bool true ∧ k ≤ r ∧ Hid (zs.map RunO.p ++ List.replicate k (v, 0) = runL v N ∧ J (pre ++ zs) Mk wz ∧ Fr (y :: M) V wz ∧ ∀ i, i ∈ Mk → i ∈ M ∨ V.heap.size ≤ i)) (fun v4 _ _ => (intOf v4).toNat)
      case atStart => exact ⟨r, ys, M1, rfl, rfl, Nat.le_refl _, hq⟩
      case round =>
        obtain ⟨k, zs, Mk, rfl, rfl, hkr, hz⟩ := hrel
        have hki : (k : Int) ≤ 10000 := by omega
        cases k with
        | succ k =>
          have hk0 : 0 < ((k + 1 : Nat) : Int) := by omega
          obtain ⟨h1, h2, h3, h4⟩ := hz.out
          obtain ⟨x0, hx0⟩ : ∃ x0 : RunO, x0.p = (v, 0) := ⟨⟨(v, 0), by simp only; omega⟩, rfl⟩
          have he : x0.encs = #[.agg #[.int .u8 (v : Int), .int .u8 0]] := by unfold RunO.encs; rw [hx0]; rfl
          obtain ⟨fn, tmps, assign, body, hy1, hR⟩ := HB.out.2.1 (pre ++ zs) x0 Mk wr h2 (by
            have h5 := congrArg List.length h1
            have := HLEN.out
            rw [List.length_append, List.length_map, List.length_replicate] at h5
            rw [List.length_append]
            omega) (n - 1)
          rw [he] at hy1
          have HR := Lib.hid hR
          have ek : ((k + 1 : Nat) : Int) - 1 = (k : Int) := by omega
          have HZ := Lib.hid (show (zs ++ [x0]).map RunO.p ++ List.replicate k (v, 0) = runL v N by rw [← h1, List.map_append, List.replicate_succ]; simp [hx0])
          clear h1 h2 h3 h4 hR he hx0
          gi_wp2_with fail
          refine ⟨fun h => absurd h (by simp [Fence.wide]), HR.out.mono ?_⟩
          rintro e W5 ⟨rfl, M5, hJ5, hf5, hm5⟩
          have H5 := Lib.hid (And.intro hJ5 (And.intro hf5 hm5))
          clear hJ5 hf5 hm5 hy1
          gi_wp2_with fail
          go_roundw
          case rel =>
            obtain ⟨hJ5, hf5, hm5⟩ := H5.out
            obtain ⟨h1, h2, h3, h4⟩ := hz.out
            have hs5 := h3.size
            refine ⟨k, zs ++ [x0], M5, rfl, rfl, by omega, Lib.hid ⟨HZ.out, by rw [← List.append_assoc]; exact hJ5, hf5.outL h3 (by
              intro i hi
              rcases List.mem_cons.1 hi with rfl | hi
              · left; simp
              · rcases h4 i hi with h | h
                · left; simp [h]
                · right; exact h), fun i hi => by
              rcases hm5 i hi with h | h
              · exact h4 i h
              · right; omega⟩⟩
          case measure => simp [intOf]
        | zero =>
          obtain ⟨h1, h2, h3, h4⟩ := hz.out
          have HZ := Lib.hid (And.intro h1 (And.intro h2 (And.intro h3 h4)))
          clear h1 h2 h3 h4 hz
          gi_wp2_with fail
          go_roundw
          case rel =>
            obtain ⟨h1, h2, h3, h4⟩ := HZ.out
            obtain ⟨hp, hj, hxr, hcr, hlr, hL, q8, qM, qB, qW⟩ := HH.out
            obtain ⟨fV, xV, jV, mV, zV⟩ := HVV.out
            have hS := HB.out.2.2.1
            have hyl := HB.out.2.2.2.1
            have hW0 := HB.out.2.2.2.2.1
            have hNe := HN.out
            have hlen : (rest.drop (sameN v rest)).length = L - N := by rw [List.length_drop]; simp at hL; omega
            have hxy : x ∉ y :: M := fun h => by
              rcases List.mem_cons.1 h with h5 | h5
              · have := hS x (by simp); omega
              · exact (mV x h5).2 (by simp)
            refine ⟨pre ++ zs, Mk, rest.drop (sameN v rest), a2, c' - N, Lib.hid ?_, h2, by rw [hlen]; exact h3.blk xV hxy, ?_, by omega, by omega, Lib.hid ⟨fun u hu => q8 u (by simp [List.mem_of_mem_drop hu]), fun i hi => ⟨HB.out.2.2.2.2.2.2.2.2.2 _ _ _ h2 i hi, ?_⟩, ?_, by have := h3.size; omega⟩⟩
            · rw [← HP.out, ← h1, List.map_append]
              simp
            · intro hne
              have hlt : N < L := by
                have : 0 < (rest.drop (sameN v rest)).length := List.length_pos_iff.2 hne
                omega
              have ha := HA2.out
              rw [if_neg (by omega)] at ha
              refine ⟨b, o + N, ha.symm, ?_, fun i u hi j z hz => ?_⟩
              · have := fV.size; have := h3.size; omega
              · rw [List.getElem?_drop] at hi
                have h5 := HC.out (N + i) u (by rw [show N + i = (sameN v rest + i) + 1 by omega, List.getElem?_cons_succ]; exact hi) j z hz
                have hb1 : b ∈ x :: tokB a l := List.mem_cons_of_mem _ (qB b (by simp [tokB]))
                have hbx : b ≠ x := fun e => HB.out.2.2.2.2.2.1 (by rw [← e]; exact qB b (by simp [tokB]))
                have hby : b ∉ y :: M := fun h => by
                  rcases List.mem_cons.1 h with h6 | h6
                  · have := hS b hb1; omega
                  · exact (mV b h6).2 hb1
                have e5 := fV.block b hbl (by simpa using hbx)
                have e6 := h3.block b (Nat.lt_of_lt_of_le hbl fV.size) hby
                have e7 : o + N + (i * 1 + j) = o + ((N + i) * 1 + j) := by omega
                unfold World.cell? at h5 ⊢
                rw [e6, e5, e7]
                exact h5
            · intro hs
              rcases h4 i hi with h5 | h5
              · exact (mV i h5).2 hs
              · have := hS i hs; omega
            · intro i hi
              cases hd : rest.drop (sameN v rest) with
              | nil => rw [hd] at hi; cases hi
              | cons u us =>
                rw [hd] at hi
                have hlt : N < L := by rw [hd] at hlen; simp at hlen; omega
                have ha := HA2.out
                rw [if_neg (by omega)] at ha
                rw [← ha] at hi
                simp [tokB] at hi
                subst hi
                exact qB i (by simp [tokB])
          case measure =>
            obtain ⟨hp, hj, hxr, hcr, hlr, hL, q8, qM, qB, qW⟩ := HH.out
            obtain ⟨fV, xV, jV, mV, zV⟩ := HVV.out
            have hS := HB.out.2.2.1
            have hyl := HB.out.2.2.2.1
            have hNe := HN.out
            have hxy : x ∉ y :: M := fun h => by
              rcases List.mem_cons.1 h with h5 | h5
              · have := hS x (by simp); omega
              · exact (mV x h5).2 (by simp)
            rw [boxLen_of (HZ.out.2.2.1.blk xV hxy), boxLen_of hxr]
            simp at hL
            omega
end Go.Proofs.Ytciejmlhdmjajaa

