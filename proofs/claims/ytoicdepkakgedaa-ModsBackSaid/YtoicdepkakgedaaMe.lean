/- Package mods: Decode. -/
import Derived.Test.YtoicdepkakgedaaMd
namespace Go.Proofs.Ytoicdepkakgedaa
open Go.RowKit
set_option linter.unusedVariables false
set_option linter.unusedSimpArgs false

/-- What 'Decode' answers. -/
def decV (p : Int) (s : ByteArray) : List Md := if pageB p then (decL p s.data.toList).getD [] else []
def decE (p : Int) (s : ByteArray) : Int := if pageB p then (if (decL p s.data.toList).isSome then 0 else 7) else 2
def DecPost (p : Int) (s : ByteArray) (w : World) (e : Ending) (w' : World) : Prop :=
  ∃ v, e = .returned (.tuple #[v, .int .i64 (decE p s)]) ∧ w'.ownsRow w.heap.size 34 2 v (decV p s).length ((decV p s).flatMap Md.enc) ∧ Fr [] w w'

theorem elemM : Elem Try.prog 22 34 2 24 := by
  refine ⟨Try.underlying22, ?_⟩
  obtain ⟨i0, hi, hz0, hz1, hz2⟩ := info_parts (show (Try.prog.info? 34).map (fun i => (i.zero, i.size, i.bytes)) = some (some (.agg #[.int .i64 0, .string ByteArray.empty]), 2, 24) by kernel_rfl)
  exact ⟨i0, _, hi, hz0, hz1, hz2, rfl, by decide⟩

theorem num_eq (x : ByteArray) : num x = numL x.data.toList := rfl
/-- What is read of a record's head. -/
theorem head_facts (x : ByteArray) : getB x 2 2 = decide (4 ≤ x.size) ∧ (4 ≤ x.size → getN x 0 2 = numL x.data.toList % 65536 ∧ getN x 2 2 = recN x.data.toList) := by
  refine ⟨by unfold getB; apply decide_eq_decide.2; omega, fun h => ⟨?_, ?_⟩⟩
  · have e : getB x 0 2 = true := by unfold getB; apply decide_eq_true; omega
    unfold getN; rw [e]; simp [num_eq]
  · have e : getB x 2 2 = true := by unfold getB; apply decide_eq_true; omega
    unfold getN; rw [e]; simp [num_eq, recN]
theorem ne_nil {x : ByteArray} (h : 0 < x.size) : x.data.toList ≠ [] := fun e => by have := congrArg List.length e; simp at this; rw [this] at h; simp at h
theorem dec_short (p : Int) (x : ByteArray) (h0 : 0 < x.size) (h : x.size < 4) : decL p x.data.toList = none := by
  rw [decL_step p _ (ne_nil h0)]
  have : recM x.data.toList = none := by unfold recM; rw [if_neg (by simp; omega)]
  rw [this]
theorem dec_cut (p : Int) (x : ByteArray) (h0 : 0 < x.size) (h : x.size < 4 + recN x.data.toList) : decL p x.data.toList = none := by
  rw [decL_step p _ (ne_nil h0)]
  have : recM x.data.toList = none := by unfold recM; rw [if_neg (by simp; omega)]
  rw [this]
theorem dec_step (p : Int) (x : ByteArray) (a n : Nat) (ha : a = numL x.data.toList % 65536) (hn : n = recN x.data.toList) (h0 : 4 ≤ x.size) (h : 4 + n ≤ x.size) :
    decL p x.data.toList = if mayB p ⟨(a : Int), x.extract 4 (4 + n)⟩ then (decL p (x.extract (4 + n) x.size).data.toList).map (⟨(a : Int), x.extract 4 (4 + n)⟩ :: ·) else none := by
  rw [decL_step p _ (ne_nil (by omega))]
  have e : recM x.data.toList = some ⟨(a : Int), x.extract 4 (4 + n)⟩ := by
    unfold recM
    rw [if_pos (by simp; omega), ← ha, ← hn]
    congr 2
    apply ByteArray.ext; apply Array.ext'
    rw [Lib.extract_data, show 4 + n - 4 = n by omega]
  rw [e]
  simp only
  have hs : (x.extract 4 (4 + n)).size = n := by simp; omega
  rw [hs, Lib.extract_to_end]
theorem dec_ok {p : Int} {s : ByteArray} (hp : pageB p = true) {l : List Md} (h : decL p s.data.toList = some l) : decV p s = l ∧ decE p s = 0 := by
  unfold decV decE; rw [hp, h]; exact ⟨rfl, rfl⟩
theorem dec_no {p : Int} {s : ByteArray} (hp : pageB p = true) (h : decL p s.data.toList = none) : decV p s = [] ∧ decE p s = 7 := by
  unfold decV decE; rw [hp, h]; exact ⟨rfl, rfl⟩
theorem dec_bad {p : Int} {s : ByteArray} (hp : pageB p = false) : decV p s = [] ∧ decE p s = 2 := by
  unfold decV decE; rw [hp]; exact ⟨rfl, rfl⟩
def strOf : Value → Nat
  | .string x => x.size
  | _ => 0
theorem flatMap_snoc (acc : List Md) (m : Md) : (acc ++ [m]).flatMap Md.enc = acc.flatMap Md.enc ++ Md.enc m := by simp

set_option maxRecDepth 2000000 in
set_option maxHeartbeats 1600000 in
theorem decode_any (p : Int) (s : ByteArray) (w : World) (hs : s.size ≤ 1000000) : Calls Try.prog 22 #[.int .i64 p, .string s] w (DecPost p s w) := by
  cases hp : pageB p with
  | false =>
    obtain ⟨e1, e2⟩ := dec_bad (s := s) hp
    have HE := Lib.hid (And.intro hp (And.intro e1 e2))
    clear hp e1 e2
    go_enter Try.func22, Try.ntmps22
    go_wp2_with fail
    refine (page_any p _).mono ?_
    rintro e w1 ⟨rfl, rfl⟩
    rw [HE.out.1]
    go_wp2_with fail
    go_ret2
    unfold DecPost
    rw [HE.out.2.1, HE.out.2.2]
    exact ⟨_, rfl, World.ownsRow_nil _ _ _ _, Fr.refl _ _⟩
  | true =>
    have HP := Lib.hid hp
    clear hp
    go_enter Try.func22, Try.ntmps22
    go_wp2_with fail
    refine (page_any p _).mono ?_
    rintro e w1 ⟨rfl, rfl⟩
    rw [HP.out]
    go_wp2_with fail
    go_loopw [1, 4] (fun u v wr => ∃ (x : ByteArray) (acc : List Md) (vv : Value), u = .string x ∧ vv = v ∧ acc.length + x.size ≤ s.size ∧ decL p s.data.toList = (decL p x.data.toList).map (acc ++ ·) ∧ wr.ownsRow w.heap.size 34 2 vv acc.length (acc.flatMap Md.enc) ∧ Below w.heap.size w wr) (fun u _ _ => strOf u)
    case atStart => exact ⟨s, [], _, rfl, rfl, by simp, by simp, World.ownsRow_nil _ _ _ _, Below.refl _ _⟩
    case round =>
      obtain ⟨x, acc, vv, rfl, rfl, hlen, hdec, hS, hB⟩ := hrel
      have hBs := hB.size
      have HD := Lib.hid (And.intro hdec (And.intro hS hB))
      obtain ⟨hg1, hg2⟩ := head_facts x
      have HG := Lib.hid (And.intro hg1 hg2)
      have hxs : x.size ≤ 1000000000 := by omega
      have hxi : (x.size : Int) ≤ 1000000 := by omega
      clear hdec hS hB hg1 hg2
      rcases Nat.eq_zero_or_pos x.size with h0 | h0
      · have hx := empty_of x h0
        subst hx
        go_wp2_with fail
        go_ret2
        have hd := HD.out.1
        rw [show (ByteArray.empty).data.toList = [] from rfl, decL_nil] at hd
        obtain ⟨e1, e2⟩ := dec_ok HP.out (l := acc) (by simpa using hd)
        unfold DecPost
        rw [e1, e2]
        exact ⟨_, rfl, HD.out.2.1, Fr.of_below HD.out.2.2⟩
      · have hne := isEmpty_of x h0
        rcases Nat.lt_or_ge x.size 4 with h4 | h4
        · have hb : getB x 2 2 = false := by rw [HG.out.1]; exact decide_eq_false (by omega)
          have HB := Lib.hid hb
          have hd := HD.out.1
          rw [dec_short p x h0 h4] at hd
          have HE := Lib.hid (dec_no HP.out hd)
          clear hb hd h4
          go_wp2_with fail
          refine (get_any x 0 2 _ hxs (by omega) (by omega)).mono ?_
          rintro e w2 ⟨rfl, f2⟩
          go_wp2_with fail
          refine (get_any x 2 2 _ hxs (by omega) (by omega)).mono ?_
          rintro e w3 ⟨rfl, f3⟩
          rw [HB.out]
          have HF := Lib.hid (And.intro f2 f3)
          clear f2 f3
          go_wp2_with fail
          go_ret2
          unfold DecPost
          rw [HE.out.1, HE.out.2]
          exact ⟨_, rfl, World.ownsRow_nil _ _ _ _, Fr.of_below (HF.out.2.out (HF.out.1.out HD.out.2.2 (by simp)) (by simp))⟩
        · have hb : getB x 2 2 = true := by rw [HG.out.1]; exact decide_eq_true h4
          obtain ⟨g1, g2⟩ := HG.out.2 h4
          obtain ⟨a, ha⟩ : ∃ a, a = numL x.data.toList % 65536 := ⟨_, rfl⟩
          obtain ⟨n, hn⟩ : ∃ n, n = recN x.data.toList := ⟨_, rfl⟩
          have ha1 : a < 65536 := by omega
          have hn1 : n < 65536 := by have : recN x.data.toList < 65536 := by unfold recN; omega
                                     omega
          have HB := Lib.hid (And.intro hb (And.intro (g1.trans ha.symm) (g2.trans hn.symm)))
          have wa : IntKind.i64.wrap (a : Int) = (a : Int) := by rw [IntKind.wrap_i64]; omega
          have wn : IntKind.i64.wrap (n : Int) = (n : Int) := by rw [IntKind.wrap_i64]; omega
          have na : (a : Int) ≤ 70000 := by omega
          have nn : (n : Int) ≤ 70000 := by omega
          have h4i : 4 ≤ (x.size : Int) := by omega
          rcases Nat.lt_or_ge x.size (4 + n) with h5 | h5
          · have hd := HD.out.1
            rw [dec_cut p x h0 (by rw [← hn]; exact h5)] at hd
            have HE := Lib.hid (dec_no HP.out hd)
            have h5i : (x.size : Int) - 4 < (n : Int) := by omega
            clear hb hd ha hn g1 g2 h5
            go_wp2_with fail
            refine (get_any x 0 2 _ hxs (by omega) (by omega)).mono ?_
            rintro e w2 ⟨rfl, f2⟩
            go_wp2_with fail
            refine (get_any x 2 2 _ hxs (by omega) (by omega)).mono ?_
            rintro e w3 ⟨rfl, f3⟩
            rw [HB.out.1, HB.out.2.2]
            have HF := Lib.hid (And.intro f2 f3)
            clear f2 f3
            go_wp2_with fail
            go_ret2
            unfold DecPost
            rw [HE.out.1, HE.out.2]
            exact ⟨_, rfl, World.ownsRow_nil _ _ _ _, Fr.of_below (HF.out.2.out (HF.out.1.out HD.out.2.2 (by simp)) (by simp))⟩
          · have hst := Lib.hid (dec_step p x a n ha hn h4 h5)
            have h5i : (n : Int) ≤ (x.size : Int) - 4 := by omega
            have h5j : (4 : Int) + (n : Int) ≤ (x.size : Int) := by omega
            clear hb ha hn g1 g2
            go_wp2_with fail
            refine (get_any x 0 2 _ hxs (by omega) (by omega)).mono ?_
            rintro e w2 ⟨rfl, f2⟩
            rw [HB.out.2.1]
            go_wp2_with fail
            refine (get_any x 2 2 _ hxs (by omega) (by omega)).mono ?_
            rintro e w3 ⟨rfl, f3⟩
            rw [HB.out.1, HB.out.2.2]
            have HF := Lib.hid (And.intro f2 f3)
            clear f2 f3
            have hms : (x.extract 4 (4 + n)).size ≤ 1000000 := by simp; omega
            have HMS := Lib.hid hms
            clear hms
            have hnew := Lib.hid (And.intro (new_of w3 (.cells #[.int .i64 (a : Int), .string (x.extract 4 (4 + n))] 34)) (Fr.alloc [] w3 (.cells #[.int .i64 (a : Int), .string (x.extract 4 (4 + n))] 34)))
            go_wp2_with fail
            refine (may_any p ⟨(a : Int), x.extract 4 (4 + n)⟩ _ (by have := HMS.out; simp only; omega)).mono ?_
            rintro e w4 ⟨rfl, f4⟩
            have hb4 := Lib.hid (f4.blk hnew.out.1 (by simp))
            have hW4 := Lib.hid (f4.out (hnew.out.2.out (HF.out.2.out (HF.out.1.out HD.out.2.2 (by simp)) (by simp)) (by simp)) (by simp))
            have hS4 := Lib.hid (ownsRow_to (ownsRow_to (ownsRow_to (ownsRow_to HD.out.2.1 HF.out.1 (by simp)) HF.out.2 (by simp)) hnew.out.2 (by simp)) f4 (by simp))
            clear f4
            cases hmay : mayB p ⟨(a : Int), x.extract 4 (4 + n)⟩ with
            | false =>
              have hd := HD.out.1
              rw [hst.out, hmay] at hd
              have HE := Lib.hid (dec_no HP.out hd)
              clear hmay hd
              go_wp2_with fail
              go_ret2
              unfold DecPost
              rw [HE.out.1, HE.out.2]
              exact ⟨_, rfl, World.ownsRow_nil _ _ _ _, Fr.of_below hW4.out⟩
            | true =>
              have hd := HD.out.1
              rw [hst.out, hmay] at hd
              have HE := Lib.hid hd
              clear hmay hd
              have c0 := cell_of hb4.out 0
              have c1 := cell_of hb4.out 1
              have hsz4 := hW4.out.size
              go_wp2_with (at_builtin; go_must (refine wpList_push w.heap.size w w4 rfl (.tmp 48) (.tmp 50) 22 rfl 34 2 24 elemM vv acc.length _ rfl hS4 hW4 hsz4 #[.int .i64 (a : Int), .string (x.extract 4 (4 + n))] 1 1 rfl rfl rfl (by omega) (by omega) (by omega) ?_); intro g cap w5 HQ)
              go_roundw
              case rel =>
                refine ⟨_, acc ++ [⟨(a : Int), x.extract 4 (4 + n)⟩], _, rfl, rfl, by simp; omega, ?_, ?_, HQ.out.below⟩
                · have := HE.out
                  rw [this]
                  cases decL p (x.extract (4 + n) x.size).data.toList <;> simp
                · have := HQ.out.own
                  rw [flatMap_snoc, List.length_append]
                  exact this
              case measure => simp [strOf]; omega
end Go.Proofs.Ytoicdepkakgedaa
