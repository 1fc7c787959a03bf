/- The document's Diff. -/
import Derived.Test.YtoicdepkakgedaaMi
namespace Go.Proofs.Ytoicdepkakgedaa
open Go.RowKit
set_option linter.unusedVariables false
set_option linter.unusedSimpArgs false

theorem dfold_skip (d : Nat → Bool) (m k : Nat) (hm : m ≤ k) (h : ∀ j, m ≤ j → j < k → d j = false) : dfold d k = dfold d m := by
  induction k with
  | zero => have : m = 0 := by omega
            subst this; rfl
  | succ k ih =>
    by_cases he : m = k + 1
    · rw [he]
    · rw [dfold, dstep, h k (by omega) (by omega), ih (by omega) (fun j h1 h2 => h j h1 (by omega))]
      simp
/-- The runs up to a place. -/
def dlist (d : Nat → Bool) (i : Nat) : List (Nat × Nat) := (dfold d i).1 ++ (dfold d i).2.toList
/-- Behind an open run nothing differs within the gap. -/
def dcalm (d : Nat → Bool) (n i : Nat) : Prop := ∀ f t, (dfold d i).2 = some (f, t) → t ≤ i ∧ ∀ k, t ≤ k → k < n → k < t + 5 → d k = false
theorem dcalm_zero (d : Nat → Bool) (n : Nat) : dcalm d n 0 := fun f t h => by simp [dfold] at h
theorem dlist_no (d : Nat → Bool) (i : Nat) (h : d i = false) : dlist d (i + 1) = dlist d i := by unfold dlist; rw [dfold, dstep, h]; simp
theorem dcalm_no (d : Nat → Bool) (n i : Nat) (h : d i = false) (hc : dcalm d n i) : dcalm d n (i + 1) := fun f t ht => by
  rw [dfold, dstep, h] at ht
  simp only [if_neg (show ¬ (false = true) by decide)] at ht
  obtain ⟨h1, h2⟩ := hc f t ht
  exact ⟨by omega, h2⟩
theorem dfold_open (d : Nat → Bool) (n i : Nat) (hi : i < n) (h : d i = true) (hc : dcalm d n i) (h0 : (dfold d i).2 = none → (dfold d i).1 = []) : dfold d (i + 1) = (dlist d i, some (i, i + 1)) := by
  rw [dfold, dstep, h]
  unfold dlist
  cases ho : (dfold d i).2 with
  | none => simp [h0 ho]
  | some x =>
    obtain ⟨f, t⟩ := x
    obtain ⟨h1, h2⟩ := hc f t ho
    have : t + 4 < i := by
      by_cases hl : i < t + 5
      · have := h2 i h1 hi hl
        rw [h] at this; cases this
      · omega
    simp [this]
theorem dfold_more (d : Nat → Bool) (c : List (Nat × Nat)) (i last k : Nat) (hf : dfold d (last + 1) = (c, some (i, last + 1))) (hk : last < k) (hg : k ≤ last + 5) (hno : ∀ j, last + 1 ≤ j → j < k → d j = false) (h : d k = true) : dfold d (k + 1) = (c, some (i, k + 1)) := by
  rw [dfold, dfold_skip d (last + 1) k (by omega) hno, hf, dstep, h]
  simp only [if_true]
  rw [if_neg (by omega)]
theorem dlist_of (d : Nat → Bool) (c : List (Nat × Nat)) (i j : Nat) (r : Nat × Nat) (hf : dfold d j = (c, some r)) : dlist d j = c ++ [r] := by unfold dlist; rw [hf]; rfl
theorem dcalm_of (d : Nat → Bool) (n : Nat) (c : List (Nat × Nat)) (i last : Nat) (hf : dfold d (last + 1) = (c, some (i, last + 1))) (hno : ∀ k, last + 1 ≤ k → k < n → k < last + 6 → d k = false) : dcalm d n (last + 1) := fun f t ht => by
  rw [hf] at ht
  injection ht with ht
  injection ht with h1 h2
  subst h2
  exact ⟨Nat.le_refl _, fun k h1 h2 h3 => hno k h1 h2 (by omega)⟩
def runM (b : ByteArray) (r : Nat × Nat) : Md := ⟨(r.1 : Int), b.extract r.1 r.2⟩
def difB (a b : ByteArray) : Bool := pageB a.size && decide (a.size = b.size)
def difV (a b : ByteArray) : List Md := if difB a b then (dlist (differs a b) a.size).map (runM b) else []
def difE (a b : ByteArray) : Int := if difB a b then 0 else 2
def DiffPost (a b : ByteArray) (w : World) (e : Ending) (w' : World) : Prop :=
  ∃ v, e = .returned (.tuple #[v, .int .i64 (difE a b)]) ∧ w'.ownsRow w.heap.size 34 2 v (difV a b).length ((difV a b).flatMap Md.enc) ∧ Fr [] w w'
theorem dif_bad {a b : ByteArray} (h : difB a b = false) : difV a b = [] ∧ difE a b = 2 := by unfold difV difE; rw [h]; exact ⟨rfl, rfl⟩
theorem dif_ok {a b : ByteArray} (h : difB a b = true) : difV a b = (dlist (differs a b) a.size).map (runM b) ∧ difE a b = 0 := by unfold difV difE; rw [h]; exact ⟨rfl, rfl⟩

theorem differs_of (a b : ByteArray) (i : Nat) (ha : i < a.size) (hb : i < b.size) : differs a b i = ((a[i]).toNat != (b[i]).toNat) := by
  unfold differs
  rw [List.getElem?_eq_getElem (show i < a.data.toList.length by simpa using ha), List.getElem?_eq_getElem (show i < b.data.toList.length by simpa using hb)]
  have e1 : a.data.toList[i]'(by simpa using ha) = a[i] := rfl
  have e2 : b.data.toList[i]'(by simpa using hb) = b[i] := rfl
  rw [e1, e2, Bool.eq_iff_iff, bne_iff_ne, bne_iff_ne]
  constructor
  · intro h h'; exact h (by rw [UInt8.toNat.inj h'])
  · intro h h'; injection h' with h'; exact h (by rw [h'])
/-- Two bytes at one place: what the walk reads. -/
theorem two_bytes (a b : ByteArray) (i : Nat) (ha : i < a.size) (hb : i < b.size) : ∃ x y : Nat, (∀ W, (Instr.index 9 (.string a) (.int .i64 (i : Int))).run Try.prog W = .ok (.int .u8 (x : Int)) W) ∧ (∀ W, (Instr.index 9 (.string b) (.int .i64 (i : Int))).run Try.prog W = .ok (.int .u8 (y : Int)) W) ∧ ((x : Int) == (y : Int)) = !differs a b i ∧ ((x : Int) != (y : Int)) = differs a b i := by
  refine ⟨(a[i]).toNat, (b[i]).toNat, fun W => run_index_text (P := Try.prog) W 9 a .i64 i Try.underlying9 ha, fun W => run_index_text (P := Try.prog) W 9 b .i64 i Try.underlying9 hb, ?_, ?_⟩
  · rw [differs_of a b i ha hb, Bool.eq_iff_iff]; simp only [beq_iff_eq, Bool.not_eq_true', bne_eq_false_iff_eq]; omega
  · rw [differs_of a b i ha hb, Bool.eq_iff_iff]; simp only [bne_iff_ne]; omega

set_option maxRecDepth 2000000 in
set_option maxHeartbeats 1600000 in
theorem rdiff_any (a b : ByteArray) (w : World) (ha : a.size ≤ 1000000000) (hb : b.size ≤ 1000000000) : Calls Try.prog 29 #[.string a, .string b] w (DiffPost a b w) := by
  have hai : (a.size : Int) ≤ 1000000000 := by omega
  have hbi : (b.size : Int) ≤ 1000000000 := by omega
  cases hp : pageB a.size with
  | false =>
    obtain ⟨e1, e2⟩ := dif_bad (a := a) (b := b) (by unfold difB; rw [hp]; rfl)
    have HE := Lib.hid (And.intro hp (And.intro e1 e2))
    clear hp e1 e2
    go_enter Try.func29, Try.ntmps29
    go_wp2_with fail
    refine (rpage_any a.size _).mono ?_
    rintro e w1 ⟨rfl, rfl⟩
    rw [HE.out.1]
    go_wp2_with fail
    go_ret2
    unfold DiffPost
    rw [HE.out.2.1, HE.out.2.2]
    exact ⟨_, rfl, World.ownsRow_nil _ _ _ _, Fr.refl _ _⟩
  | true =>
  by_cases hab : a.size = b.size
  · have HP := Lib.hid hp
    have HOK := Lib.hid (dif_ok (a := a) (b := b) (by unfold difB; rw [hp, decide_eq_true hab]; rfl))
    have hne : ((a.size : Int) != (b.size : Int)) = false := by rw [bne_eq_false_iff_eq]; omega
    have HAB := Lib.hid hab
    clear hp hab
    go_enter Try.func29, Try.ntmps29
    go_wp2_with fail
    refine (rpage_any a.size _).mono ?_
    rintro e w1 ⟨rfl, rfl⟩
    rw [HP.out]
    go_wp2_with fail
    clear hne
    go_loopw [6, 7] (fun v u wr => ∃ (i : Nat) (vv : Value), u = .int .i64 i ∧ vv = v ∧ i ≤ a.size ∧ (dlist (differs a b) i).length ≤ i ∧ dcalm (differs a b) a.size i ∧ wr.ownsRow w.heap.size 34 2 vv (dlist (differs a b) i).length (((dlist (differs a b) i).map (runM b)).flatMap Md.enc) ∧ Below w.heap.size w wr) (fun _ u _ => a.size - (intOf u).toNat)
    case atStart => exact ⟨0, _, rfl, rfl, by omega, by simp [dlist, dfold], dcalm_zero _ _, World.ownsRow_nil _ _ _ _, Below.refl _ _⟩
    case round =>
      obtain ⟨i, vv, rfl, rfl, hi, hlen, hcalm, hS, hB⟩ := hrel
      have hBs := hB.size
      have HD := Lib.hid (And.intro hcalm (And.intro hS hB))
      clear hcalm hS hB
      rcases Nat.lt_or_ge i a.size with hlt | hge
      · have hii : (i : Int) < (a.size : Int) := by omega
        obtain ⟨x, y, x0, y0, he1, he2⟩ := two_bytes a b i hlt (by have := HAB.out; omega)
        cases hd : differs a b i with
        | false =>
          rw [hd] at he1
          have HN := Lib.hid (And.intro (dlist_no _ _ hd) (dcalm_no _ a.size _ hd HD.out.1))
          simp only [Bool.not_false] at he1
          clear hd he2
          go_wp2_with fail
          go_quiet (fail)
          clear x0 y0 he1
          have hF2 := Lib.hid (And.intro (ownsRow_to HD.out.2.1 (Fr.drewN [] wr nq) (by simp)) ((Fr.drewN [] wr nq).out HD.out.2.2 (by simp)))
          generalize wr.drewN nq = W at *
          go_wp2_with fail
          go_roundw
          case rel => exact ⟨i + 1, _, by go_num, rfl, by omega, by rw [HN.out.1]; omega, HN.out.2, by rw [HN.out.1]; exact hF2.out.1, hF2.out.2⟩
          case measure => simp [intOf]; omega
        | true =>
          rw [hd] at he1
          simp only [Bool.not_true] at he1
          have HO := Lib.hid (dfold_open _ a.size i hlt hd HD.out.1 (dinv _ i).2)
          clear hd he2
          go_wp2_with fail
          go_quiet (fail)
          clear x0 y0 he1
          have hF2 := Lib.hid (And.intro (ownsRow_to HD.out.2.1 (Fr.drewN [] wr nq) (by simp)) ((Fr.drewN [] wr nq).out HD.out.2.2 (by simp)))
          generalize wr.drewN nq = W at *
          go_wp2_with fail
          go_loopw [8, 9] (fun u z w3 => ∃ (last k : Nat), u = .int .i64 last ∧ z = .int .i64 k ∧ i ≤ last ∧ last < k ∧ k ≤ a.size ∧ k ≤ last + 6 ∧ dfold (differs a b) (last + 1) = (dlist (differs a b) i, some (i, last + 1)) ∧ (∀ j, last + 1 ≤ j → j < k → differs a b j = false) ∧ w3.ownsRow w.heap.size 34 2 vv (dlist (differs a b) i).length (((dlist (differs a b) i).map (runM b)).flatMap Md.enc) ∧ Below w.heap.size w w3) (fun _ z _ => a.size - (intOf z).toNat)
          case atStart => exact ⟨i, i + 1, rfl, by go_num, by omega, by omega, by omega, by omega, HO.out, fun j h1 h2 => by omega, hF2.out.1, hF2.out.2⟩
          case round =>
            obtain ⟨last, k, rfl, rfl, hil, hlk, hka, hk6, hfo, hno, hS3, hB3⟩ := hrel
            have H3 := Lib.hid (And.intro hfo (And.intro hno (And.intro hS3 hB3)))
            have hB3s := hB3.size
            clear hfo hno hS3 hB3
            by_cases hc : k < a.size ∧ k ≤ last + 5
            · obtain ⟨hk1, hk2⟩ := hc
              have hk1i : (k : Int) < (a.size : Int) := by omega
              have hk2i : (k : Int) - (last : Int) ≤ 5 := by omega
              obtain ⟨p, q, p0, q0, hf1, hf2⟩ := two_bytes a b k hk1 (by have := HAB.out; omega)
              cases hd : differs a b k with
              | false =>
                rw [hd] at hf2
                have HN := Lib.hid hd
                clear hd hf1
                go_wp2_with fail
                go_quiet (fail)
                clear p0 q0 hf2
                have hF4 := Lib.hid (And.intro (ownsRow_to H3.out.2.2.1 (Fr.drewN [] wr nq) (by simp)) ((Fr.drewN [] wr nq).out H3.out.2.2.2 (by simp)))
                generalize wr.drewN nq = W4 at *
                go_wp2_with fail
                go_roundw
                case rel =>
                  refine ⟨last, k + 1, rfl, by go_num, hil, by omega, by omega, by omega, H3.out.1, fun j h1 h2 => ?_, hF4.out.1, hF4.out.2⟩
                  by_cases hj : j = k
                  · rw [hj]; exact HN.out
                  · exact H3.out.2.1 j h1 (by omega)
                case measure => simp [intOf]; omega
              | true =>
                rw [hd] at hf2
                have HN := Lib.hid (dfold_more _ _ i last k H3.out.1 hlk hk2 H3.out.2.1 hd)
                clear hd hf1
                go_wp2_with fail
                go_quiet (fail)
                clear p0 q0 hf2
                have hF4 := Lib.hid (And.intro (ownsRow_to H3.out.2.2.1 (Fr.drewN [] wr nq) (by simp)) ((Fr.drewN [] wr nq).out H3.out.2.2.2 (by simp)))
                generalize wr.drewN nq = W4 at *
                go_wp2_with fail
                go_roundw
                case rel => exact ⟨k, k + 1, rfl, by go_num, by omega, by omega, by omega, by omega, HN.out, fun j h1 h2 => by omega, hF4.out.1, hF4.out.2⟩
                case measure => simp [intOf]; omega
            rcases Nat.lt_or_ge k a.size with hk1 | hk1
            · have hk5 : k = last + 6 := by omega
              have hk1i : (k : Int) < (a.size : Int) := by omega
              have hk2i : 5 < (k : Int) - (last : Int) := by omega
              clear hc
              have hno' := Lib.hid (dcalm_of (differs a b) a.size _ i last H3.out.1 (fun j h1 h2 h3 => H3.out.2.1 j h1 (by omega)))
              have hl1 : (last : Int) + 1 ≤ (b.size : Int) := by have := HAB.out; omega
              have hil' : (i : Int) ≤ (last : Int) + 1 := by omega
              have hlen3 : (dlist (differs a b) i).length + 1 ≤ 1000000000 := by omega
              have hS3 := Lib.hid H3.out.2.2.1
              have hB3 := Lib.hid H3.out.2.2.2
              have hli := Lib.hid (dlist_of (differs a b) _ i (last + 1) _ H3.out.1)
              go_wp2_with (at_builtin; go_must (refine wpList_push w.heap.size w wr rfl (.tmp 57) (.tmp 65) 22 rfl 34 2 24 elemM vv (dlist (differs a b) i).length _ rfl hS3 hB3 hB3s #[.int .i64 (i : Int), .string (b.extract i (last + 1))] 1 1 rfl rfl rfl (by omega) (by omega) (by omega) ?_); intro g cap w5 HQ)
              go_roundw
              case rel =>
                refine ⟨last + 1, _, by go_num, rfl, by omega, by rw [hli.out]; simp; omega, hno'.out, ?_, HQ.out.below⟩
                have := HQ.out.own
                rw [hli.out, List.map_append, List.flatMap_append, List.length_append]
                exact this
              case measure => simp [intOf]; omega
            · have hke : k = a.size := by omega
              subst hke
              clear hc
              have hno' := Lib.hid (dcalm_of (differs a b) a.size _ i last H3.out.1 (fun j h1 h2 h3 => H3.out.2.1 j h1 (by omega)))
              have hl1 : (last : Int) + 1 ≤ (b.size : Int) := by have := HAB.out; omega
              have hil' : (i : Int) ≤ (last : Int) + 1 := by omega
              have hlen3 : (dlist (differs a b) i).length + 1 ≤ 1000000000 := by omega
              have hS3 := Lib.hid H3.out.2.2.1
              have hB3 := Lib.hid H3.out.2.2.2
              have hli := Lib.hid (dlist_of (differs a b) _ i (last + 1) _ H3.out.1)
              go_wp2_with (at_builtin; go_must (refine wpList_push w.heap.size w wr rfl (.tmp 57) (.tmp 65) 22 rfl 34 2 24 elemM vv (dlist (differs a b) i).length _ rfl hS3 hB3 hB3s #[.int .i64 (i : Int), .string (b.extract i (last + 1))] 1 1 rfl rfl rfl (by omega) (by omega) (by omega) ?_); intro g cap w5 HQ)
              go_roundw
              case rel =>
                refine ⟨last + 1, _, by go_num, rfl, by omega, by rw [hli.out]; simp; omega, hno'.out, ?_, HQ.out.below⟩
                have := HQ.out.own
                rw [hli.out, List.map_append, List.flatMap_append, List.length_append]
                exact this
              case measure => simp [intOf]; omega
      · have hie : i = a.size := by omega
        subst hie
        go_wp2_with fail
        go_ret2
        unfold DiffPost
        rw [HOK.out.1, HOK.out.2]
        exact ⟨_, rfl, by rw [List.length_map]; exact HD.out.2.1, Fr.of_below HD.out.2.2⟩
  · obtain ⟨e1, e2⟩ := dif_bad (a := a) (b := b) (by unfold difB; rw [decide_eq_false hab]; simp)
    have HE := Lib.hid (And.intro hp (And.intro e1 e2))
    have hne : ((a.size : Int) != (b.size : Int)) = true := by rw [bne_iff_ne]; omega
    clear hp e1 e2 hab
    go_enter Try.func29, Try.ntmps29
    go_wp2_with fail
    refine (rpage_any a.size _).mono ?_
    rintro e w1 ⟨rfl, rfl⟩
    rw [HE.out.1]
    go_wp2_with fail
    go_ret2
    unfold DiffPost
    rw [HE.out.2.1, HE.out.2.2]
    exact ⟨_, rfl, World.ownsRow_nil _ _ _ _, Fr.refl _ _⟩
end Go.Proofs.Ytoicdepkakgedaa
