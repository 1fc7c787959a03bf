/- What is written of bits, piece by piece; the symbols of tokens: plain. Package block: may all tokens be; their symbols, as an iterator. -/
import Derived.Test.YtciejmlhdmjajaaKEd
import Derived.Test.YtciejmlhdmjajaaKSo
import Derived.Test.YtciejmlhdmjajaaKOw
import Derived.Test.YtciejmlhdmjajaaKIt
import Derived.RangeFuncBox
import Derived.RangeFuncLeaves
import Derived.Shelf.Abstract
import Derived.Shelf.RegionOpen
import Derived.Sort.QuietIn
import Derived.OwnWalkIn
import Derived.TacticsInMore
import Derived.LoopNIn
import Derived.LoopIn
namespace Go.Proofs.Ytciejmlhdmjajaa
set_option linter.unusedVariables false
set_option linter.unusedSimpArgs false

/-- Bits (a number, and how many) with so many more behind them. -/
def putP (s p : Nat × Nat) : Nat × Nat := (s.1 + p.1 * 2 ^ s.2, s.2 + p.2)
def puts (s : Nat × Nat) (l : List (Nat × Nat)) : Nat × Nat := l.foldl putP s
def bitsP : List (Nat × Nat) → Nat
  | [] => 0
  | p :: l => p.2 + bitsP l
theorem bitsP_append (a b : List (Nat × Nat)) : bitsP (a ++ b) = bitsP a + bitsP b := by
  induction a with
  | nil => simp [bitsP]
  | cons x a ih => simp only [List.cons_append, bitsP, ih]; omega
theorem puts_append (s : Nat × Nat) (a b : List (Nat × Nat)) : puts s (a ++ b) = puts (puts s a) b := List.foldl_append
theorem puts_one (s p : Nat × Nat) : puts s [p] = putP s p := rfl
theorem puts_nil (s : Nat × Nat) : puts s [] = s := rfl
theorem puts_cons (s p : Nat × Nat) (l : List (Nat × Nat)) : puts s (p :: l) = puts (putP s p) l := rfl
theorem puts_len (s : Nat × Nat) (l : List (Nat × Nat)) : (puts s l).2 = s.2 + bitsP l := by
  induction l generalizing s with
  | nil => rfl
  | cons x l ih => rw [puts_cons, ih]; simp only [putP, bitsP]; omega
theorem puts_num (s : Nat × Nat) (l : List (Nat × Nat)) : (puts s l).1 = s.1 + (puts (0, 0) l).1 * 2 ^ s.2 := by
  induction l generalizing s with
  | nil => simp [puts]
  | cons x l ih =>
    rw [puts_cons, puts_cons, ih (putP s x), ih (putP (0, 0) x)]
    simp only [putP, Nat.pow_zero, Nat.mul_one, Nat.zero_add, Nat.add_mul, Nat.pow_add]
    rw [Nat.add_assoc, Nat.mul_comm (2 ^ s.2) (2 ^ x.2), Nat.mul_assoc]
/-- Pieces that are as great as they say. -/
def PutsOk (l : List (Nat × Nat)) : Prop := ∀ p ∈ l, p.1 < 2 ^ p.2
theorem puts_lt {s : Nat × Nat} {l : List (Nat × Nat)} (hs : s.1 < 2 ^ s.2) (h : PutsOk l) : (puts s l).1 < 2 ^ (puts s l).2 := by
  induction l generalizing s with
  | nil => exact hs
  | cons x l ih =>
    rw [puts_cons]
    refine ih ?_ fun p hp => h p (by simp [hp])
    have hx := h x (by simp)
    simp only [putP, Nat.pow_add]
    calc s.1 + x.1 * 2 ^ s.2 < 2 ^ s.2 + x.1 * 2 ^ s.2 := by omega
      _ = (x.1 + 1) * 2 ^ s.2 := by rw [Nat.add_mul]; omega
      _ ≤ 2 ^ x.2 * 2 ^ s.2 := Nat.mul_le_mul_right _ hx
      _ = 2 ^ s.2 * 2 ^ x.2 := Nat.mul_comm _ _

/-- How many of the first N do not come up to n, as a number. -/
def uptoN (f : Nat → Nat) (N n : Nat) : Nat := ((List.range N).filter fun i => decide (f i ≤ n)).length
theorem upto_eq {f : Nat → Nat} {n r : Nat} : ∀ {N : Nat}, Upto f N n r → uptoN f N n = r
  | 0, h => by have := h.1; simp [uptoN]; omega
  | N + 1, h => by
    obtain ⟨h1, h2, h3⟩ := h
    unfold uptoN
    rw [List.range_succ, List.filter_append, List.length_append]
    by_cases hr : r ≤ N
    · have e := upto_eq (N := N) (f := f) (n := n) (r := r) ⟨hr, h2, fun i h4 h5 => h3 i h4 (by omega)⟩
      unfold uptoN at e
      have h6 := h3 N hr (by omega)
      rw [e, List.filter_cons, if_neg (by simp; omega)]
      simp
    · have hr2 : r = N + 1 := by omega
      have e := upto_eq (N := N) (f := f) (n := n) (r := N) ⟨Nat.le_refl _, fun i hi => h2 i (by omega), fun i h4 h5 => by omega⟩
      unfold uptoN at e
      rw [e, List.filter_cons, if_pos (by simp; exact h2 N (by omega))]
      simp
      omega
/-- A symbol that is written: of distances, or not; which; bits besides. -/
structure Sy where
  dist : Bool
  n : Nat
  extra : Nat
  bits : Nat
deriving DecidableEq
def lenSym (n : Nat) : Nat := 256 + uptoN lengthF 29 n
def distSym (n : Nat) : Nat := uptoN distF 30 n - 1
def Tok.syms (t : Tok) : List Sy :=
  if t.len = 0 then [⟨false, t.lit, 0, 0⟩]
  else [⟨false, lenSym t.len.toNat, t.len.toNat - leastN (lenSym t.len.toNat), lbN (lenSym t.len.toNat)⟩, ⟨true, distSym t.dist.toNat, t.dist.toNat - nearN (distSym t.dist.toNat), dbN (distSym t.dist.toNat)⟩]
def endSy : Sy := ⟨false, 256, 0, 0⟩
def symsL (l : List Tok) : List Sy := l.flatMap Tok.syms ++ [endSy]
def Sy.ok (s : Sy) : Prop := (if s.dist then s.n < 30 else s.n < 286) ∧ s.extra < 2 ^ s.bits ∧ s.bits ≤ 13
theorem len_all : ∀ n : Nat, n < 259 → 3 ≤ n → 257 ≤ lenSym n ∧ lenSym n < 286 ∧ leastN (lenSym n) ≤ n ∧ n - leastN (lenSym n) < 2 ^ lbN (lenSym n) := by decide +kernel
theorem near_next : ∀ i : Nat, i < 29 → nearN (i + 1) = nearN i + 2 ^ dbN i := by decide +kernel
theorem dist_upto (n : Nat) (h1 : 1 ≤ n) (h2 : n ≤ 32768) : ∃ r, r ≤ 29 ∧ Upto distF 30 n (r + 1) := by
  have key : ∀ N, N ≤ 30 → 1 ≤ N → ∃ r, r + 1 ≤ N ∧ Upto distF N n (r + 1) := by
    intro N hN h1N
    induction N with
    | zero => omega
    | succ N ih =>
      by_cases hN0 : N = 0
      · subst hN0
        refine ⟨0, by omega, by omega, fun i hi => ?_, fun i h3 h4 => by omega⟩
        have : i = 0 := by omega
        subst this
        show nearN 0 ≤ n
        have : nearN 0 = 1 := by decide
        omega
      · obtain ⟨r, hr, h3, h4, h5⟩ := ih (by omega) (by omega)
        by_cases hx : r + 1 = N ∧ distF N ≤ n
        · refine ⟨N, by omega, by omega, fun i hi => ?_, fun i h6 h7 => by omega⟩
          by_cases hiN : i = N
          · rw [hiN]; exact hx.2
          · exact h4 i (by omega)
        · refine ⟨r, by omega, by omega, h4, fun i h6 h7 => ?_⟩
          by_cases hiN : i = N
          · subst hiN
            by_cases hr2 : r + 1 = i
            · omega
            · have h8 := h5 (r + 1) (by omega) (by omega)
              have h9 := near_up (r + 1) (by omega) i (by omega) (by omega)
              unfold distF at *
              omega
          · exact h5 i h6 (by omega)
  obtain ⟨r, hr, hu⟩ := key 30 (by omega) (by omega)
  exact ⟨r, by omega, hu⟩
theorem dist_all (n : Nat) (h1 : 1 ≤ n) (h2 : n ≤ 32768) : distSym n < 30 ∧ nearN (distSym n) ≤ n ∧ n - nearN (distSym n) < 2 ^ dbN (distSym n) := by
  obtain ⟨r, hr, hu⟩ := dist_upto n h1 h2
  have e : distSym n = r := by unfold distSym; rw [upto_eq hu]; omega
  rw [e]
  have h3 := hu.2.1 r (by omega)
  unfold distF at h3
  refine ⟨by omega, h3, ?_⟩
  by_cases h29 : r = 29
  · subst h29
    have h4 : nearN 29 = 24577 := by decide
    have h5 : dbN 29 = 13 := by decide
    rw [h4, h5]
    omega
  · have h4 := hu.2.2 (r + 1) (by omega) (by omega)
    unfold distF at h4
    rw [near_next r (by omega)] at h4
    omega
theorem Tok.may_cases {t : Tok} (h : t.may = true) : (t.len = 0 ∧ t.dist = 0) ∨ (t.len ≠ 0 ∧ 3 ≤ t.len ∧ t.len ≤ 258 ∧ 1 ≤ t.dist ∧ t.dist ≤ 32768 ∧ t.lit = 0) := by
  unfold Tok.may at h
  split at h
  · exact .inl ⟨by assumption, by simpa using h⟩
  · simp at h
    exact .inr ⟨by assumption, by omega, by omega, by omega, by omega, by omega⟩
theorem syms_ok {t : Tok} (h : t.may = true) (hl : t.lit < 256) : ∀ s ∈ t.syms, s.ok := by
  intro s hs
  unfold Tok.syms at hs
  rcases Tok.may_cases h with ⟨h0, _⟩ | ⟨h0, h1, h2, h3, h4, _⟩
  · rw [if_pos h0] at hs
    simp at hs
    subst hs
    exact ⟨by show t.lit < 286; omega, by show 0 < 2 ^ 0; omega, by show 0 ≤ 13; omega⟩
  · rw [if_neg h0] at hs
    obtain ⟨n, hn⟩ : ∃ n : Nat, t.len.toNat = n := ⟨_, rfl⟩
    obtain ⟨d, hd⟩ : ∃ d : Nat, t.dist.toNat = d := ⟨_, rfl⟩
    rw [hn, hd] at hs
    have a := len_all n (by omega) (by omega)
    have b := dist_all d (by omega) (by omega)
    simp only [List.mem_cons, List.not_mem_nil, or_false] at hs
    rcases hs with rfl | rfl
    · exact ⟨a.2.1, a.2.2.2, by have := lb_le (lenSym n) (by omega); show lbN _ ≤ 13; omega⟩
    · exact ⟨b.1, b.2.2, by have := db_le (distSym d) (by omega); show dbN _ ≤ 13; omega⟩
theorem symsL_ok {l : List Tok} (h : ∀ t ∈ l, t.may = true) (hl : ∀ t ∈ l, t.lit < 256) : ∀ s ∈ symsL l, s.ok := by
  intro s hs
  unfold symsL at hs
  rcases List.mem_append.1 hs with h1 | h1
  · obtain ⟨t, ht, hst⟩ := List.mem_flatMap.1 h1
    exact syms_ok (h t ht) (hl t ht) s hst
  · simp at h1
    subst h1
    exact ⟨by show 256 < 286; omega, by show 0 < 2 ^ 0; omega, by show 0 ≤ 13; omega⟩
theorem symsL_len (l : List Tok) : (symsL l).length ≤ 2 * l.length + 1 := by
  unfold symsL
  rw [List.length_append]
  have : (l.flatMap Tok.syms).length ≤ 2 * l.length := by
    induction l with
    | nil => simp
    | cons t l ih =>
      rw [List.flatMap_cons, List.length_append, List.length_cons]
      have : t.syms.length ≤ 2 := by unfold Tok.syms; split <;> simp
      omega
  simp only [List.length_cons, List.length_nil]
  omega
end Go.Proofs.Ytciejmlhdmjajaa
namespace Go.Proofs.Ytciejmlhdmjajaa
open Go.RowKit Go.Shelf
set_option linter.unusedVariables false
set_option linter.unusedSimpArgs false
attribute [local go_sem] Oper.semAt_some

theorem SlOf.fr {α : Type} {enc : α → List Value} {sz : Nat} {w w' : World} {a0 : Option Addr} {xs : List α} {L : List Nat} (h : SlOf enc sz w a0 xs) (hf : Fr L w w') (hL : ∀ a, a0 = some a → a.block ∉ L) : SlOf enc sz w' a0 xs := fun hx => by
  obtain ⟨b, o, h1, h2, h3⟩ := h hx
  refine ⟨b, o, h1, Nat.lt_of_lt_of_le h2 hf.size, fun i x hi j u hu => ?_⟩
  have h4 := h3 i x hi j u hu
  have h5 := hf.block b h2 (hL _ h1)
  unfold World.cell? at h4 ⊢
  rw [h5]
  exact h4

set_option maxRecDepth 100000 in
set_option maxHeartbeats 3200000 in
theorem may_all (a : Option Addr) (c : Nat) (l : List Tok) (w : World) (hs : SlOf Tok.enc Tok.sz w a l) (hl : l.length ≤ 1000000000) (hok : ∀ t ∈ l, t.ok) :
    Calls Try.prog 25 #[.slice a l.length c] w fun e w' => e = .returned (.bool (l.all Tok.may)) ∧ Fr [] w w' := by
  have S1 := Lib.hid (And.intro hs hok)
  have i1 : (l.length : Int) ≤ 1000000000 := by omega
  clear hs hl hok
  go_enter Try.func25, Try.ntmps25
  go_wp2_with fail
  go_loopw [7] (fun i wr => ∃ k : Nat, k ≤ l.length ∧ i = .int .i64 k ∧ Hid (∀ t ∈ l.take k, t.may = true) ∧ Fr [] w wr) (fun i _ => l.length - (intOf i).toNat)
  case atStart => exact ⟨0, Nat.zero_le _, rfl, Lib.hid (by simp), Fr.refl _ _⟩
  case round =>
    obtain ⟨k, hk, rfl, hp, hF⟩ := hrel
    by_cases hlt : k < l.length
    · obtain ⟨m, hm⟩ : ∃ m, l[k]? = some m := ⟨l[k], List.getElem?_eq_getElem hlt⟩
      obtain ⟨b, o, rfl, hbl, hcell⟩ := (S1.out.1.below hF.below) (by intro h; rw [h] at hlt; simp at hlt)
      have k0 := hcell k m hm 0 (.int .u8 (m.lit : Int)) rfl
      have k1 := hcell k m hm 1 (.int .i64 m.len) rfl
      have k2 := hcell k m hm 2 (.int .i64 m.dist) rfl
      simp only [Nat.add_zero, Tok.sz] at k0 k1 k2
      rw [← Nat.add_assoc] at k1 k2
      have HM := Lib.hid (fun W => may_tok m W (S1.out.2 m (List.mem_of_getElem? hm)))
      have HT := Lib.hid (show l.take (k + 1) = l.take k ++ [m] by rw [List.take_add_one, hm]; rfl)
      have hmem := List.mem_of_getElem? hm
      unfold Tok.val at HM
      obtain ⟨y, hy⟩ : ∃ y, m.may = y := ⟨_, rfl⟩
      rw [hy] at HM
      have HY := Lib.hid hy
      have HF := Lib.hid hF
      clear hcell hm hF
      cases y with
      | true =>
        clear hy hmem
        go_wp2_with fail
        refine (HM.out _).mono ?_
        rintro e w1 ⟨rfl, f1⟩
        have F1 := Lib.hid ((HF.out.trans (Fr.alloc _ _ _)).trans f1)
        clear f1 k0 k1 k2
        go_wp2_with fail
        go_roundw
        case rel => exact ⟨k + 1, by omega, by go_num, Lib.hid (by rw [HT.out]; intro t ht; rcases List.mem_append.1 ht with h | h; exact hp.out t h; simp at h; rw [h]; exact HY.out), F1.out⟩
        case measure => simp [intOf]; omega
      | false =>
        have HA := Lib.hid (show l.all Tok.may = false by rw [List.all_eq_false]; exact ⟨m, hmem, by simp [hy]⟩)
        clear hy hmem
        go_wp2_with fail
        refine (HM.out _).mono ?_
        rintro e w1 ⟨rfl, f1⟩
        have F1 := Lib.hid ((HF.out.trans (Fr.alloc _ _ _)).trans f1)
        clear f1 k0 k1 k2
        go_wp2_with fail
        go_ret
        exact ⟨by rw [HA.out]; rfl, F1.out⟩
    · have hke : k = l.length := by omega
      subst hke
      have HE := Lib.hid (show l.all Tok.may = true by rw [List.all_eq_true]; have := hp.out; rw [List.take_of_length_le (Nat.le_refl _)] at this; exact this)
      have HF := Lib.hid hF
      clear hF
      go_wp2_with fail
      go_ret
      exact ⟨by rw [HE.out]; rfl, HF.out⟩

def SyO : Type := {s : Sy // s.ok}
def SyO.sy (x : SyO) : Sy := x.1
def Sy.val (s : Sy) : Value := .agg #[.bool s.dist, .int .i64 (s.n : Int), .int .u32 (s.extra : Int), .int .i64 (s.bits : Int)]
def SyO.encs (x : SyO) : Array Value := #[x.sy.val]
def tokB {α : Type} (a : Option Addr) : List α → List Nat
  | [] => []
  | _ :: _ => (a.map Addr.block).toList
theorem SlOf.lt {α : Type} {enc : α → List Value} {sz : Nat} {A : World} {a0 : Option Addr} {xs : List α} (h : SlOf enc sz A a0 xs) : ∀ k, k ∈ tokB a0 xs → k < A.heap.size := fun k hk => by
  cases xs with
  | nil => cases hk
  | cons x xs =>
    obtain ⟨b, o, h1, h2, _⟩ := h (by simp)
    rw [h1] at hk
    simp [tokB] at hk
    omega
theorem SlOf.kp {α : Type} {enc : α → List Value} {sz : Nat} {A B : World} {a0 : Option Addr} {xs : List α} (h : SlOf enc sz A a0 xs) (hk : ∀ k, k ∈ tokB a0 xs → B.heap[k]? = A.heap[k]?) : SlOf enc sz B a0 xs := fun hx => by
  obtain ⟨b, o, h1, h2, h3⟩ := h hx
  have h5 := hk b (by rw [h1]; cases xs with | nil => exact absurd rfl hx | cons => simp [tokB])
  refine ⟨b, o, h1, ?_, fun i x hi j u hu => ?_⟩
  · rw [Array.getElem?_eq_getElem h2] at h5
    exact (Array.getElem?_eq_some_iff.1 h5).1
  · have h4 := h3 i x hi j u hu
    unfold World.cell? at h4 ⊢
    rw [h5]
    exact h4
theorem J_fr {α : Type} {own : List Nat} {B : Nat} {J : List α → List Nat → World → Prop} (hJ : Stab own B J) {s : List α} {M : List Nat} {A W : World} (h : J s M A) (f : Fr [] A W) : J s M W := hJ s M A _ [] h f (by simp)
theorem kept_on {S M M' : List Nat} {A B : World} {y z : Nat} (hf : Fr (y :: M) A B) (hS : ∀ k, k ∈ S → k < z) (hy : z ≤ y) (hA : z ≤ A.heap.size) (hM : ∀ i, i ∈ M → i ∉ S) (hM' : ∀ i, i ∈ M' → i ∈ M ∨ A.heap.size ≤ i) : KpL S A B ∧ (∀ i, i ∈ M' → i ∉ S) ∧ z ≤ B.heap.size :=
  ⟨KpL.of_fr hf fun k hk => ⟨by have := hS k hk; omega, fun h => by
    rcases List.mem_cons.1 h with h1 | h1
    · have := hS k hk; omega
    · exact hM k h1 hk⟩, fun i hi hs => by
    rcases hM' i hi with h1 | h1
    · exact hM i h1 hs
    · have := hS i hs; omega, Nat.le_trans hA hf.size⟩

theorem syms_in (a : Option Addr) (c : Nat) (n : Nat) (w : World) : Calls Try.prog 26 #[.slice a n c] w fun e w' => e = .returned (.func (.func 42) #[] #[.pointer (some ⟨w.heap.size, 0, none⟩)]) ∧ w' = w.alloc (.cells #[.slice a n c] 22) := by
  go_enter Try.func26, Try.ntmps26
  go_wp2
  go_ret
  exact ⟨rfl, rfl⟩

theorem length_tok (N : Nat) (w : World) (h3 : 3 ≤ N) (h258 : N ≤ 258) : Calls Try.prog 43 #[.int .i64 (N : Int)] w fun e w' => e = .returned (.tuple #[.int .i64 (lenSym N : Nat), .int .u32 ((N - leastN (lenSym N) : Nat) : Int), .int .i64 (lbN (lenSym N) : Nat), .bool true]) ∧ Fr [] w w' := by
  refine (length_yes N w h3 h258).mono ?_
  rintro e w' ⟨⟨r, he, _, _, hu, _⟩, f⟩
  have e1 : lenSym N = 256 + r := by unfold lenSym; rw [upto_eq hu]
  rw [e1]
  exact ⟨he, f⟩
theorem dist_tok (N : Nat) (w : World) (h3 : 1 ≤ N) (h258 : N ≤ 32768) : Calls Try.prog 44 #[.int .i64 (N : Int)] w fun e w' => e = .returned (.tuple #[.int .i64 (distSym N : Nat), .int .u32 ((N - nearN (distSym N) : Nat) : Int), .int .i64 (dbN (distSym N) : Nat), .bool true]) ∧ Fr [] w w' := by
  refine (dist_yes N w h3 h258).mono ?_
  rintro e w' ⟨⟨r, he, _, hu, _⟩, f⟩
  have e1 : distSym N = r := by unfold distSym; rw [upto_eq hu]; omega
  rw [e1]
  exact ⟨he, f⟩
set_option maxRecDepth 2000000 in
set_option maxHeartbeats 3200000 in
theorem syms_iter (n : Nat) (a : Option Addr) (c : Nat) (l : List Tok) (x : Nat) (w : World) (hs : SlOf Tok.enc Tok.sz w a l) (hl : l.length ≤ 1000000000) (hok : ∀ t ∈ l, t.ok) (hmay : ∀ t ∈ l, t.may = true) (hx : w.heap[x]? = some (.cells #[.slice a l.length c] 22 (0, 0))) :
    IterF n Try.prog 42 #[.pointer (some ⟨x, 0, none⟩)] SyO.encs [] (x :: tokB a l) (fun ys => ys.map SyO.sy = symsL l) (2 * l.length + 1) w := fun y J M0 W hW hyl hyW hM hJM hJ hY h0 => by
  have hxW : W.heap[x]? = some (.cells #[.slice a l.length c] 22 (0, 0)) := (hW.block x (lt_of hx)).trans hx
  have hsW := hs.below hW
  have hS : ∀ k, k ∈ x :: tokB a l → k < w.heap.size := fun k hk => by
    rcases List.mem_cons.1 hk with rfl | hk
    · exact lt_of hx
    · exact hs.lt k hk
  have hsz := hW.size
  have kx := cell_of hxW 0
  have hli : (l.length : Int) ≤ 1000000000 := by omega
  have HB := Lib.hid (And.intro hok (And.intro hmay (And.intro hJ (And.intro hY (And.intro hS (And.intro hyl hsz))))))
  have HS := Lib.hid (And.intro hxW (And.intro hsW (And.intro h0 fun i hi => (hM i hi).2.1)))
  clear hJM hx hxW hsW hY hJ hW hs hok hmay hl hS hyl hyW hM h0 hsz
  refine callsIn_of_wp Try.func42 rfl trivial ?_ rfl
  simp only [Try.ntmps42, List.size_toArray, List.length_cons, List.length_nil, Nat.reduceAdd, Nat.reduceSub, Array.replicate_succ, Array.replicate_zero, List.push_toArray, List.append_toArray, List.nil_append, List.cons_append]
  gi_wp2_with fail
  gi_loopw [15] (fun i wr => ∃ (k : Nat) (pre : List SyO) (M : List Nat), k ≤ l.length ∧ i = .int .i64 k ∧ Hid (pre.map SyO.sy = (l.take k).flatMap Tok.syms) ∧ pre.length ≤ 2 * k ∧ J pre M wr ∧ wr.heap[x]? = some (.cells #[.slice a l.length c] 22 (0, 0)) ∧ SlOf Tok.enc Tok.sz wr a l ∧ Hid (∀ i, i ∈ M → i ∉ x :: tokB a l) ∧ w.heap.size ≤ wr.heap.size) (fun i _ => l.length - (intOf i).toNat)
  case atStart => exact ⟨0, [], M0, Nat.zero_le _, rfl, Lib.hid rfl, by simp, HS.out.2.2.1, HS.out.1, HS.out.2.1, Lib.hid HS.out.2.2.2, HB.out.2.2.2.2.2.2⟩
  case round =>
    obtain ⟨k, pre, M, hk, rfl, hpre, hpl, hJs, hxr, hsr, hMS, hwz⟩ := hrel
    clear kx
    have H1 := Lib.hid (And.intro hJs (And.intro hxr (And.intro hsr (And.intro hMS.out hwz))))
    clear hJs hxr hsr hMS hwz
    rcases Nat.lt_or_ge k l.length with hlt | hge
    · have hki : (k : Int) < (l.length : Int) := by omega
      obtain ⟨m, hm⟩ : ∃ m, l[k]? = some m := ⟨l[k], List.getElem?_eq_getElem hlt⟩
      obtain ⟨b, o, rfl, hbl, hcell⟩ := H1.out.2.2.1 (by intro h; rw [h] at hlt; simp at hlt)
      obtain ⟨lit, len, dist⟩ := m
      have k0 := hcell k _ hm 0 (.int .u8 (lit : Int)) rfl
      have k1 := hcell k _ hm 1 (.int .i64 len) rfl
      have k2 := hcell k _ hm 2 (.int .i64 dist) rfl
      simp only [Nat.add_zero, Tok.sz] at k0 k1 k2
      rw [← Nat.add_assoc] at k1 k2
      have hmem := List.mem_of_getElem? hm
      have ht := HB.out.2.1 _ hmem
      have htok := HB.out.1 _ hmem
      have HT := Lib.hid (show l.take (k + 1) = l.take k ++ [⟨lit, len, dist⟩] by rw [List.take_add_one, hm]; rfl)
      clear hcell hm
      by_cases h0 : len = 0
      · subst h0
        have hlit : (lit : Int) ≤ 255 := by have := htok.1; simp only at this; omega
        obtain ⟨x0, hx0⟩ : ∃ x0 : SyO, x0.sy = ⟨false, lit, 0, 0⟩ := ⟨⟨_, syms_ok ht htok.1 _ (by unfold Tok.syms; simp)⟩, rfl⟩
        have he : x0.encs = #[.agg #[.bool false, .int .i64 (lit : Int), .int .u32 0, .int .i64 0]] := by unfold SyO.encs Sy.val; rw [hx0]; rfl
        obtain ⟨fn, tmps, assign, body, hy, hR⟩ := HB.out.2.2.2.1 pre x0 M (wr.alloc (.cells #[.int .u8 (lit : Int), .int .i64 0, .int .i64 dist] 66)) (J_fr HB.out.2.2.1 H1.out.1 (Fr.alloc _ _ _)) (by omega) (n - 1)
        rw [he] at hy
        have HR := Lib.hid hR
        have HT2 := Lib.hid (show (pre ++ [x0]).map SyO.sy = (l.take (k + 1)).flatMap Tok.syms by rw [HT.out, List.flatMap_append, ← hpre.out, List.map_append]; simp [Tok.syms, hx0])
        clear hR htok ht hmem he hx0
        gi_wp2_with fail
        refine ⟨fun h => absurd h (by simp [Fence.wide]), HR.out.mono ?_⟩
        rintro e W5 ⟨rfl, M5, hJ5, hf5, hm5⟩
        obtain ⟨hk5, hM5, hz5⟩ := kept_on hf5 HB.out.2.2.2.2.1 HB.out.2.2.2.2.2.1 (by have := H1.out.2.2.2.2; simp; omega) H1.out.2.2.2.1 hm5
        have H5 := Lib.hid (And.intro hJ5 (And.intro ((hk5 x (by simp)).trans ((Fr.alloc [] _ _).blk H1.out.2.1 (by simp))) (And.intro ((H1.out.2.2.1.fr (Fr.alloc [] _ _) (by simp)).kp fun k hk => hk5 k (List.mem_cons_of_mem _ hk)) (And.intro hM5 hz5))))
        clear hJ5 hk5 hy k0 k1 k2 hf5 hm5 hM5 hz5
        gi_wp2_with fail
        go_roundw
        case rel => exact ⟨k + 1, pre ++ [x0], M5, by omega, by go_num, Lib.hid HT2.out, by rw [List.length_append]; show pre.length + 1 ≤ _; omega, H5.out.1, H5.out.2.1, H5.out.2.2.1, Lib.hid H5.out.2.2.2.1, H5.out.2.2.2.2⟩
        case measure => simp [intOf]; omega
      · have hm3 : 3 ≤ len ∧ len ≤ 258 ∧ 1 ≤ dist ∧ dist ≤ 32768 ∧ lit = 0 := by
          rcases Tok.may_cases ht with ⟨h1, _⟩ | ⟨_, h1, h2, h3, h4, h5⟩
          · exact absurd h1 h0
          · exact ⟨h1, h2, h3, h4, h5⟩
        obtain ⟨N, rfl⟩ : ∃ N : Nat, len = (N : Int) := ⟨len.toNat, by omega⟩
        obtain ⟨D, rfl⟩ : ∃ D : Nat, dist = (D : Int) := ⟨dist.toNat, by omega⟩
        have hN : (N : Int) ≤ 258 := by omega
        have hN3 : 3 ≤ (N : Int) := by omega
        have hD : (D : Int) ≤ 32768 := by omega
        have hD1 : 1 ≤ (D : Int) := by omega
        have hNb : ((N : Int) == 0) = false := by rw [beq_eq_false_iff_ne]; exact h0
        have HL := Lib.hid (fun W => length_tok N W (by omega) (by omega))
        have HD := Lib.hid (fun W => dist_tok D W (by omega) (by omega))
        have HO := Lib.hid (And.intro (syms_ok ht htok.1) (show Tok.syms ⟨lit, N, D⟩ = [⟨false, lenSym N, N - leastN (lenSym N), lbN (lenSym N)⟩, ⟨true, distSym D, D - nearN (distSym D), dbN (distSym D)⟩] by unfold Tok.syms; simp only; rw [if_neg h0]; rfl))
        clear ht htok hmem hm3 h0
        generalize N - leastN (lenSym N) = e1 at HL HO
        generalize lbN (lenSym N) = b1 at HL HO
        generalize lenSym N = s1 at HL HO
        generalize D - nearN (distSym D) = e2 at HD HO
        generalize dbN (distSym D) = b2 at HD HO
        generalize distSym D = s2 at HD HO
        gi_wp2_with fail
        refine ⟨trivial, fun h => absurd h (by simp [Fence.wide]), (callsIn_wide.2 (HL.out _)).mono ?_⟩
        rintro e w1 ⟨rfl, f1⟩
        have F1 := Lib.hid ((Fr.alloc [] _ _).trans f1)
        have hbx := f1.blk (alloc_last wr (.cells #[.int .u8 (lit : Int), .int .i64 (N : Int), .int .i64 (D : Int)] 66 (0, 0))) (by simp)
        have c2 := cell_of hbx 2
        simp at c2
        clear f1 k0 k1 k2 hbx
        gi_wp2_with fail
        refine ⟨trivial, fun h => absurd h (by simp [Fence.wide]), (callsIn_wide.2 (HD.out _)).mono ?_⟩
        rintro e w2 ⟨rfl, f2⟩
        have F2 := Lib.hid (F1.out.trans f2)
        clear f2 c2
        obtain ⟨x1, hx1⟩ : ∃ x1 : SyO, x1.sy = ⟨false, s1, e1, b1⟩ := ⟨⟨_, HO.out.1 _ (by rw [HO.out.2]; simp)⟩, rfl⟩
        have he1 : x1.encs = #[.agg #[.bool false, .int .i64 (s1 : Int), .int .u32 (e1 : Int), .int .i64 (b1 : Int)]] := by unfold SyO.encs Sy.val; rw [hx1]
        obtain ⟨x2, hx2⟩ : ∃ x2 : SyO, x2.sy = ⟨true, s2, e2, b2⟩ := ⟨⟨_, HO.out.1 _ (by rw [HO.out.2]; simp)⟩, rfl⟩
        have he2 : x2.encs = #[.agg #[.bool true, .int .i64 (s2 : Int), .int .u32 (e2 : Int), .int .i64 (b2 : Int)]] := by unfold SyO.encs Sy.val; rw [hx2]
        have HT2 := Lib.hid (show ((pre ++ [x1]) ++ [x2]).map SyO.sy = (l.take (k + 1)).flatMap Tok.syms by rw [HT.out, List.flatMap_append, ← hpre.out, List.map_append, List.map_append]; simp [HO.out.2, hx1, hx2])
        obtain ⟨fn, tmps, assign, body, hy, hR⟩ := HB.out.2.2.2.1 pre x1 M w2 (J_fr HB.out.2.2.1 H1.out.1 F2.out) (by omega) (n - 1)
        rw [he1] at hy
        have HR := Lib.hid hR
        clear hR hx1 hx2 he1
        have HX := Lib.hid (F2.out.blk H1.out.2.1 (by simp))
        have HSL := Lib.hid (H1.out.2.2.1.fr F2.out (by simp))
        gi_wp2_with fail
        refine ⟨fun h => absurd h (by simp [Fence.wide]), HR.out.mono ?_⟩
        rintro e W5 ⟨rfl, M5, hJ5, hf5, hm5⟩
        obtain ⟨hk5, hM5, hz5⟩ := kept_on hf5 HB.out.2.2.2.2.1 HB.out.2.2.2.2.2.1 (Nat.le_trans H1.out.2.2.2.2 F2.out.size) H1.out.2.2.2.1 hm5
        have H5 := Lib.hid (And.intro ((hk5 x (by simp)).trans HX.out) (And.intro (HSL.out.kp fun k hk => hk5 k (List.mem_cons_of_mem _ hk)) (And.intro hM5 hz5)))
        obtain ⟨fn2, tmps2, assign2, body2, hy2, hR2⟩ := HB.out.2.2.2.1 (pre ++ [x1]) x2 M5 W5 hJ5 (by rw [List.length_append]; show pre.length + 1 < _; omega) (n - 1)
        rw [he2] at hy2
        have HR2 := Lib.hid hR2
        clear hR2 he2 hJ5 hk5 hy hf5 hm5 hM5 hz5
        gi_wp2_with fail
        refine ⟨fun h => absurd h (by simp [Fence.wide]), HR2.out.mono ?_⟩
        rintro e W6 ⟨rfl, M6, hJ6, hf6, hm6⟩
        obtain ⟨hk6, hM6, hz6⟩ := kept_on hf6 HB.out.2.2.2.2.1 HB.out.2.2.2.2.2.1 H5.out.2.2.2 H5.out.2.2.1 hm6
        have H6 := Lib.hid (And.intro hJ6 (And.intro ((hk6 x (by simp)).trans H5.out.1) (And.intro (H5.out.2.1.kp fun k hk => hk6 k (List.mem_cons_of_mem _ hk)) (And.intro hM6 hz6))))
        clear hJ6 hk6 hy2 hf6 hm6 hM6 hz6
        gi_wp2_with fail
        go_roundw
        case rel => exact ⟨k + 1, (pre ++ [x1]) ++ [x2], M6, by omega, by go_num, Lib.hid HT2.out, by rw [List.length_append, List.length_append]; show pre.length + 1 + 1 ≤ _; omega, H6.out.1, H6.out.2.1, H6.out.2.2.1, Lib.hid H6.out.2.2.2.1, H6.out.2.2.2.2⟩
        case measure => simp [intOf]; omega
    · have hke : k = l.length := by omega
      subst hke
      obtain ⟨x0, hx0⟩ : ∃ x0 : SyO, x0.sy = endSy := ⟨⟨endSy, by show 256 < 286; omega, by show 0 < 2 ^ 0; omega, by show 0 ≤ 13; omega⟩, rfl⟩
      have he : x0.encs = #[.agg #[.bool false, .int .i64 256, .int .u32 0, .int .i64 0]] := by unfold SyO.encs Sy.val; rw [hx0]; rfl
      have HT2 := Lib.hid (show (pre ++ [x0]).map SyO.sy = symsL l by rw [List.map_append, hpre.out, List.take_of_length_le (Nat.le_refl _)]; unfold symsL; simp [hx0])
      obtain ⟨fn, tmps, assign, body, hy, hR⟩ := HB.out.2.2.2.1 pre x0 M wr H1.out.1 (by omega) (n - 1)
      rw [he] at hy
      have HR := Lib.hid hR
      clear hR he hx0
      gi_wp2_with fail
      refine ⟨fun h => absurd h (by simp [Fence.wide]), HR.out.mono ?_⟩
      rintro e W5 ⟨rfl, M5, hJ5, hf5, hm5⟩
      have H5 := Lib.hid hJ5
      clear hJ5 hy hf5 hm5
      gi_wp2_with fail
      go_end0
      exact ⟨⟨_, rfl⟩, pre ++ [x0], M5, HT2.out, H5.out⟩
end Go.Proofs.Ytciejmlhdmjajaa

