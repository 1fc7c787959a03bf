/- Modifications, in plain Lean: which may be, their log, what a page is behind them, where two pages differ. Nothing of the program stands here. -/
import Derived.Test.YtoicdepkakgedaaM
namespace Go.Proofs.Ytoicdepkakgedaa
set_option linter.unusedVariables false
set_option linter.unusedSimpArgs false

/-- A modification. -/
structure Md where
  at_ : Int
  text : ByteArray
deriving DecidableEq

def pageB (n : Int) : Bool := decide (n = 1024 ∨ n = 2048 ∨ n = 4096 ∨ n = 8192 ∨ n = 16384)
def mayB (p : Int) (m : Md) : Bool := pageB p && decide (0 ≤ m.at_ ∧ m.at_ < p ∧ 0 < m.text.size ∧ m.at_ + m.text.size ≤ p)
def sizeN : List Md → Nat
  | [] => 0
  | m :: l => 4 + m.text.size + sizeN l
/-- A record. -/
def recL (m : Md) : List UInt8 := lebL m.at_.toNat 2 ++ (lebL m.text.size 2 ++ m.text.data.toList)
def logL : List Md → List UInt8
  | [] => []
  | m :: l => recL m ++ logL l
/-- All may be. -/
def allB (p : Int) (l : List Md) : Bool := l.all (mayB p)

theorem sizeN_append (a b : List Md) : sizeN (a ++ b) = sizeN a + sizeN b := by
  induction a with
  | nil => simp [sizeN]
  | cons m a ih => simp [sizeN, ih, Nat.add_assoc]
theorem logL_append (a b : List Md) : logL (a ++ b) = logL a ++ logL b := by
  induction a with
  | nil => rfl
  | cons m a ih => simp [logL, ih]
theorem sizeN_take (l : List Md) (i : Nat) (m : Md) (h : l[i]? = some m) : sizeN (l.take (i + 1)) = sizeN (l.take i) + (4 + m.text.size) := by
  obtain ⟨hi, he⟩ := List.getElem?_eq_some_iff.1 h
  rw [List.take_succ_eq_append_getElem hi, sizeN_append, he]
  simp [sizeN]
theorem sizeN_le (l : List Md) (i : Nat) : sizeN (l.take i) ≤ sizeN l := by
  have := sizeN_append (l.take i) (l.drop i)
  rw [List.take_append_drop] at this
  omega
theorem logL_take (l : List Md) (i : Nat) (m : Md) (h : l[i]? = some m) : logL (l.take (i + 1)) = logL (l.take i) ++ recL m := by
  obtain ⟨hi, he⟩ := List.getElem?_eq_some_iff.1 h
  rw [List.take_succ_eq_append_getElem hi, logL_append, he]
  simp [logL]
theorem recL_length (m : Md) : (recL m).length = 4 + m.text.size := by simp [recL, length_lebL]; omega
theorem logL_length (l : List Md) : (logL l).length = sizeN l := by
  induction l with
  | nil => rfl
  | cons m l ih => simp [logL, sizeN, ih, recL_length]

/-- What 'Encode' answers. -/
def encS (p : Int) (l : List Md) : ByteArray := if allB p l then ⟨(logL l).toArray⟩ else ByteArray.empty
def encE (p : Int) (l : List Md) : Int := if allB p l then 0 else 2

/-! ### what a page is behind them -/
def putAt (t : List UInt8) (at_ : Nat) (x : List UInt8) : List UInt8 := t.take at_ ++ (x ++ t.drop (at_ + x.length))
theorem putAt_length (t : List UInt8) (k : Nat) (x : List UInt8) (h : k + x.length ≤ t.length) : (putAt t k x).length = t.length := by simp [putAt]; omega
def applyL (t : List UInt8) : List Md → List UInt8
  | [] => t
  | m :: l => applyL (putAt t m.at_.toNat m.text.data.toList) l
theorem applyL_append (t : List UInt8) (a b : List Md) : applyL t (a ++ b) = applyL (applyL t a) b := by
  induction a generalizing t with
  | nil => rfl
  | cons m a ih => simp [applyL, ih]
theorem applyL_take (t : List UInt8) (l : List Md) (i : Nat) (m : Md) (h : l[i]? = some m) : applyL t (l.take (i + 1)) = putAt (applyL t (l.take i)) m.at_.toNat m.text.data.toList := by
  obtain ⟨hi, he⟩ := List.getElem?_eq_some_iff.1 h
  rw [List.take_succ_eq_append_getElem hi, applyL_append, he]
  rfl
theorem mayB_fits {p : Nat} {m : Md} (h : mayB p m = true) : m.at_.toNat + m.text.data.toList.length ≤ p := by
  unfold mayB at h
  simp at h
  simp only [Array.length_toList, ByteArray.size_data]
  omega
theorem applyL_length (t : List UInt8) (l : List Md) (h : allB t.length l = true) : (applyL t l).length = t.length := by
  induction l generalizing t with
  | nil => rfl
  | cons m l ih =>
    unfold allB at h
    simp only [List.all_cons, Bool.and_eq_true] at h
    have hp := putAt_length t m.at_.toNat m.text.data.toList (mayB_fits h.1)
    simp only [applyL]
    rw [ih _ (by rw [hp]; exact h.2), hp]
def appS (t : ByteArray) (l : List Md) : ByteArray := if pageB t.size && allB t.size l then ⟨(applyL t.data.toList l).toArray⟩ else ByteArray.empty
def appE (t : ByteArray) (l : List Md) : Int := if pageB t.size && allB t.size l then 0 else 2

/-! ### which modifications a log has -/
/-- How long the text of the first record is. -/
def recN (s : List UInt8) : Nat := numL s / 65536 % 65536
/-- The first record: its modification, if it is all there. -/
def recM (s : List UInt8) : Option Md := if 4 ≤ s.length ∧ 4 + recN s ≤ s.length then some ⟨((numL s % 65536 : Nat) : Int), ⟨((s.drop 4).take (recN s)).toArray⟩⟩ else none
/-- None: a record may not be, or is not all there. -/
def decM (p : Int) : Nat → List UInt8 → Option (List Md)
  | 0, _ => some []
  | f + 1, s => if s = [] then some [] else
    match recM s with
    | none => none
    | some m => if mayB p m then (decM p f (s.drop (4 + m.text.size))).map (m :: ·) else none
def decL (p : Int) (s : List UInt8) : Option (List Md) := decM p s.length s

theorem decM_more (p : Int) (f g : Nat) (s : List UInt8) (hf : s.length ≤ f) (hg : s.length ≤ g) : decM p f s = decM p g s := by
  induction f generalizing g s with
  | zero =>
    have : s = [] := List.eq_nil_of_length_eq_zero (by omega)
    subst this
    cases g <;> simp [decM]
  | succ f ih =>
    cases g with
    | zero =>
      have : s = [] := List.eq_nil_of_length_eq_zero (by omega)
      subst this
      simp [decM]
    | succ g =>
      simp only [decM]
      split
      · rfl
      · rename_i hne
        have hp : 0 < s.length := List.length_pos_iff.2 hne
        split
        · rfl
        · rename_i m hm
          rw [ih g (s.drop (4 + m.text.size)) (by simp; omega) (by simp; omega)]
/-- One step. -/
theorem decL_step (p : Int) (s : List UInt8) (h : s ≠ []) : decL p s = match recM s with
    | none => none
    | some m => if mayB p m then (decL p (s.drop (4 + m.text.size))).map (m :: ·) else none := by
  have hp : 0 < s.length := List.length_pos_iff.2 h
  obtain ⟨f, hf⟩ : ∃ f, s.length = f + 1 := ⟨s.length - 1, by omega⟩
  unfold decL
  rw [hf]
  simp only [decM, if_neg h]
  cases hr : recM s with
  | none => rfl
  | some m =>
    simp only
    rw [decM_more p f _ (s.drop (4 + m.text.size)) (by simp; omega) (Nat.le_refl _)]
theorem decL_nil (p : Int) : decL p [] = some [] := rfl

theorem mayB_bounds {p : Int} {m : Md} (h : mayB p m = true) : 0 ≤ m.at_ ∧ m.at_ < p ∧ 0 < m.text.size ∧ m.at_ + m.text.size ≤ p ∧ p ≤ 16384 ∧ 1024 ≤ p := by
  unfold mayB pageB at h
  simp only [Bool.and_eq_true, decide_eq_true_eq] at h
  omega
theorem num_rec (m : Md) (rest : List UInt8) (h0 : 0 ≤ m.at_) (h1 : m.at_ < 65536) (h2 : m.text.size < 65536) :
    numL (recL m ++ rest) = m.at_.toNat + 65536 * (m.text.size + 65536 * numL (m.text.data.toList ++ rest)) := by
  have e : recL m ++ rest = lebL m.at_.toNat 2 ++ (lebL m.text.size 2 ++ (m.text.data.toList ++ rest)) := by simp [recL]
  rw [e, numL_append, numL_append, numL_lebL, numL_lebL, length_lebL, length_lebL, Nat.mod_eq_of_lt (by omega), Nat.mod_eq_of_lt (by omega)]
theorem recN_rec (m : Md) (rest : List UInt8) (h0 : 0 ≤ m.at_) (h1 : m.at_ < 65536) (h2 : m.text.size < 65536) : recN (recL m ++ rest) = m.text.size ∧ numL (recL m ++ rest) % 65536 = m.at_.toNat := by
  unfold recN
  rw [num_rec m rest h0 h1 h2]
  omega
theorem recM_rec (m : Md) (rest : List UInt8) (h0 : 0 ≤ m.at_) (h1 : m.at_ < 65536) (h2 : m.text.size < 65536) : recM (recL m ++ rest) = some m := by
  obtain ⟨e1, e2⟩ := recN_rec m rest h0 h1 h2
  unfold recM
  rw [e1, e2, if_pos (by simp [recL_length]; omega)]
  have e3 : ((recL m ++ rest).drop 4).take m.text.size = m.text.data.toList := by
    have : recL m ++ rest = (lebL m.at_.toNat 2 ++ lebL m.text.size 2) ++ (m.text.data.toList ++ rest) := by simp [recL]
    rw [this, List.drop_left' (by simp [length_lebL]), List.take_left' (by simp)]
  rw [e3, Int.toNat_of_nonneg h0]
theorem decL_rec (p : Int) (m : Md) (rest : List UInt8) (h : mayB p m = true) : decL p (recL m ++ rest) = (decL p rest).map (m :: ·) := by
  obtain ⟨h0, h1, h2, h3, h4, h5⟩ := mayB_bounds h
  have hne : recL m ++ rest ≠ [] := by
    intro e
    have := congrArg List.length e
    simp [recL_length] at this
  rw [decL_step p _ hne, recM_rec m rest h0 (by omega) (by omega)]
  simp only [h, if_true]
  rw [List.drop_left' (recL_length m)]
/-- A log that was written is read. -/
theorem decL_log (p : Int) (l : List Md) (rest : List UInt8) (h : allB p l = true) : decL p (logL l ++ rest) = (decL p rest).map (l ++ ·) := by
  induction l with
  | nil => simp [logL]
  | cons m l ih =>
    unfold allB at h
    simp only [List.all_cons, Bool.and_eq_true] at h
    have := decL_rec p m (logL l ++ rest) h.1
    rw [logL, List.append_assoc, this, ih h.2]
    cases decL p rest <;> simp
/-- Where records end. -/
def endsB : List Md → Nat → Bool
  | _, 0 => true
  | [], _ + 1 => false
  | m :: l, k + 1 => decide (4 + m.text.size ≤ k + 1) && endsB l (k + 1 - (4 + m.text.size))
theorem endsB_zero (l : List Md) : endsB l 0 = true := by cases l <;> rfl
theorem recN_take (s : List UInt8) (k : Nat) (h : 4 ≤ k) : recN (s.take k) = recN s := by
  unfold recN
  rw [numL_take]
  obtain ⟨q, hq⟩ : ∃ q, 256 ^ k = 4294967296 * q := ⟨256 ^ (k - 4), by rw [show (4294967296 : Nat) = 256 ^ 4 by decide, ← Nat.pow_add]; congr 1; omega⟩
  rw [hq]
  have h1 := Nat.div_add_mod (numL s) (4294967296 * q)
  rw [Nat.mul_assoc] at h1
  generalize q * (numL s / (4294967296 * q)) = z at h1
  omega
theorem decL_cut (p : Int) (l : List Md) (k : Nat) (h : allB p l = true) (hk : k ≤ sizeN l) : (decL p ((logL l).take k)).isSome = endsB l k := by
  induction l generalizing k with
  | nil =>
    have : k = 0 := by simp [sizeN] at hk; exact hk
    subst this
    rfl
  | cons m l ih =>
    cases k with
    | zero => simp [decL_nil, endsB]
    | succ k =>
      unfold allB at h
      simp only [List.all_cons, Bool.and_eq_true] at h
      obtain ⟨h0, h1, h2, h3, h4, h5⟩ := mayB_bounds h.1
      simp only [endsB]
      by_cases hc : 4 + m.text.size ≤ k + 1
      · have e : (logL (m :: l)).take (k + 1) = recL m ++ (logL l).take (k + 1 - (4 + m.text.size)) := by
          rw [logL, List.take_append, List.take_of_length_le (by rw [recL_length]; exact hc), recL_length]
        rw [e, decL_rec p m _ h.1, Option.isSome_map, ih _ h.2 (by simp only [sizeN] at hk; omega)]
        simp [hc]
      · rw [decide_eq_false hc, Bool.false_and]
        have hl : ((logL (m :: l)).take (k + 1)).length = k + 1 := by rw [List.length_take, logL_length]; omega
        have hne : (logL (m :: l)).take (k + 1) ≠ [] := by intro e; rw [e] at hl; simp at hl
        rw [decL_step p _ hne]
        have hr : recM ((logL (m :: l)).take (k + 1)) = none := by
          unfold recM
          rw [if_neg]
          rw [hl]
          intro ⟨c1, c2⟩
          have e : recN ((logL (m :: l)).take (k + 1)) = m.text.size := by
            rw [recN_take _ _ (by omega), logL]
            exact (recN_rec m (logL l) h0 (by omega) (by omega)).1
          omega
        rw [hr]
        rfl

/-! ### where two pages differ -/
def dstep (d : Nat → Bool) (st : List (Nat × Nat) × Option (Nat × Nat)) (i : Nat) : List (Nat × Nat) × Option (Nat × Nat) :=
  if d i then
    match st.2 with
    | none => (st.1, some (i, i + 1))
    | some (f, t) => if t + 4 < i then (st.1 ++ [(f, t)], some (i, i + 1)) else (st.1, some (f, i + 1))
  else st
def dfold (d : Nat → Bool) : Nat → List (Nat × Nat) × Option (Nat × Nat)
  | 0 => ([], none)
  | i + 1 => dstep d (dfold d i) i
def druns (d : Nat → Bool) (n : Nat) : List (Nat × Nat) := (dfold d n).1 ++ (dfold d n).2.toList
def differs (a b : ByteArray) (i : Nat) : Bool := a.data.toList[i]? != b.data.toList[i]?
def diffL (a b : ByteArray) : List Md := (druns (differs a b) a.size).map fun r => ⟨(r.1 : Int), b.extract r.1 r.2⟩

/-- How many places differ. -/
def dcount (d : Nat → Bool) : Nat → Nat
  | 0 => 0
  | i + 1 => dcount d i + (if d i then 1 else 0)
def dsum : List (Nat × Nat) → Nat
  | [] => 0
  | r :: l => (4 + (r.2 - r.1)) + dsum l
theorem dsum_append (a b : List (Nat × Nat)) : dsum (a ++ b) = dsum a + dsum b := by
  induction a with
  | nil => simp [dsum]
  | cons m a ih => simp [dsum, ih, Nat.add_assoc]
/-- A run: it begins and ends with what differs. -/
def okRun (d : Nat → Bool) (n : Nat) (r : Nat × Nat) : Prop := r.1 < r.2 ∧ r.2 ≤ n ∧ d r.1 = true ∧ d (r.2 - 1) = true
/-- Runs apart by more than the gap, in order. -/
def apart : List (Nat × Nat) → Prop
  | [] => True
  | [_] => True
  | r :: s :: l => r.2 + 4 < s.1 ∧ apart (s :: l)
theorem apart_snoc (l : List (Nat × Nat)) (r s : Nat × Nat) (h : apart (l ++ [r])) (hs : r.2 + 4 < s.1) : apart (l ++ [r, s]) := by
  induction l with
  | nil => exact ⟨hs, trivial⟩
  | cons x l ih =>
    cases l with
    | nil => exact ⟨h.1, hs, trivial⟩
    | cons y l => exact ⟨h.1, ih h.2⟩
theorem apart_last (l : List (Nat × Nat)) (f t t' : Nat) (h : apart (l ++ [(f, t)])) : apart (l ++ [(f, t')]) := by
  induction l with
  | nil => trivial
  | cons x l ih =>
    cases l with
    | nil => exact ⟨h.1, trivial⟩
    | cons y l => exact ⟨h.1, ih h.2⟩
/-- What holds of the runs so far. -/
structure DInv (d : Nat → Bool) (n : Nat) (l : List (Nat × Nat)) : Prop where
  ok : ∀ r ∈ l, okRun d n r
  ap : apart l
  all : ∀ k, k < n → d k = true → ∃ r ∈ l, r.1 ≤ k ∧ k < r.2
  sum : dsum l ≤ 5 * dcount d n
theorem dinv (d : Nat → Bool) (n : Nat) : DInv d n ((dfold d n).1 ++ (dfold d n).2.toList) ∧ ((dfold d n).2 = none → (dfold d n).1 = []) := by
  induction n with
  | zero => exact ⟨⟨by simp [dfold], by simp [dfold, apart], by omega, by simp [dfold, dsum]⟩, fun _ => rfl⟩
  | succ n ih =>
    obtain ⟨⟨h1, h2, h3, h4⟩, h5⟩ := ih
    simp only [dfold, dstep, dcount]
    cases hd : d n with
    | false =>
      simp only [if_neg (show ¬ (false = true) by decide)]
      refine ⟨⟨fun r hr => ?_, h2, fun k hk hdk => ?_, by simpa [dcount, hd] using h4⟩, h5⟩
      · obtain ⟨a, b, c, e⟩ := h1 r hr; exact ⟨a, by omega, c, e⟩
      · by_cases e : k = n
        · subst e; rw [hd] at hdk; cases hdk
        · exact h3 k (by omega) hdk
    | true =>
      simp only [if_true]
      have hdc : dcount d (n + 1) = dcount d n + 1 := by simp [dcount, hd]
      generalize dfold d n = st at *
      obtain ⟨c, o⟩ := st
      cases o with
      | none =>
        simp only at h1 h2 h3 h4 h5 ⊢
        have hc : c = [] := by simpa using h5
        subst hc
        refine ⟨⟨?_, by simp [apart], fun k hk hdk => ?_, by rw [hdc]; simp [dsum]; omega⟩, by simp⟩
        · intro r hr
          simp at hr
          subst hr
          exact ⟨by simp, by simp, hd, by simpa using hd⟩
        · by_cases e : k = n
          · exact ⟨(n, n + 1), by simp, by simp [e], by simp [e]⟩
          · obtain ⟨r, hr, _⟩ := h3 k (by omega) hdk
            simp at hr
      | some x =>
        obtain ⟨f, t⟩ := x
        simp only [Option.toList] at h1 h2 h3 h4 h5 ⊢
        have hft := h1 (f, t) (by simp)
        rw [dsum_append] at h4
        simp only [dsum, Nat.add_zero] at h4
        split
        · rename_i hgap
          simp only [List.append_assoc, List.cons_append, List.nil_append]
          refine ⟨⟨?_, apart_snoc c (f, t) (n, n + 1) h2 hgap, fun k hk hdk => ?_, ?_⟩, by simp⟩
          · intro r hr
            rcases List.mem_append.1 hr with hr | hr
            · obtain ⟨a, b, c', e⟩ := h1 r (List.mem_append_left _ hr); exact ⟨a, by omega, c', e⟩
            · simp at hr
              rcases hr with rfl | rfl
              · obtain ⟨a, b, c', e⟩ := hft; exact ⟨a, by simp at b ⊢; omega, c', e⟩
              · exact ⟨by simp, by simp, hd, by simpa using hd⟩
          · by_cases e : k = n
            · exact ⟨(n, n + 1), by simp, by simp [e], by simp [e]⟩
            · obtain ⟨r, hr, hk⟩ := h3 k (by omega) hdk
              refine ⟨r, ?_, hk⟩
              rcases List.mem_append.1 hr with hr | hr
              · exact List.mem_append_left _ hr
              · simp at hr; subst hr; simp
          · rw [dsum_append, hdc]; simp only [dsum]; omega
        · rename_i hgap
          obtain ⟨a, b, c', e⟩ := hft
          simp only at a b c' e
          refine ⟨⟨?_, apart_last c f t (n + 1) h2, fun k hk hdk => ?_, ?_⟩, by simp⟩
          · intro r hr
            rcases List.mem_append.1 hr with hr | hr
            · obtain ⟨a, b, c', e⟩ := h1 r (List.mem_append_left _ hr); exact ⟨a, by omega, c', e⟩
            · simp at hr
              subst hr
              exact ⟨by simp; omega, by simp, c', by simpa using hd⟩
          · by_cases e : k = n
            · exact ⟨(f, n + 1), by simp, by simp; omega, by simp [e]⟩
            · obtain ⟨r, hr, hk⟩ := h3 k (by omega) hdk
              rcases List.mem_append.1 hr with hr | hr
              · exact ⟨r, List.mem_append_left _ hr, hk⟩
              · simp at hr; subst hr
                simp only at hk
                exact ⟨(f, n + 1), by simp, hk.1, by simp; omega⟩
          · rw [dsum_append, hdc]; simp only [dsum]; omega
/-! ### powers of two -/
theorem page_land0 : ∀ i : Nat, i < 129 → ∀ j : Nat, j < 128 → 1024 ≤ 128 * i + j → 128 * i + j ≤ 16384 → (((128 * i + j) &&& (128 * i + j - 1)) == 0) = decide (128 * i + j = 1024 ∨ 128 * i + j = 2048 ∨ 128 * i + j = 4096 ∨ 128 * i + j = 8192 ∨ 128 * i + j = 16384) := by decide +kernel
theorem page_land (n : Nat) (h : n ≤ 16384) (h1 : 1024 ≤ n) : ((n &&& (n - 1)) == 0) = decide (n = 1024 ∨ n = 2048 ∨ n = 4096 ∨ n = 8192 ∨ n = 16384) := by
  have := page_land0 (n / 128) (by omega) (n % 128) (by omega) (by omega) (by omega)
  rw [show 128 * (n / 128) + n % 128 = n by omega] at this
  exact this

end Go.Proofs.Ytoicdepkakgedaa
