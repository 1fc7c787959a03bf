/- Logs, in plain Lean: where records end; unlike lists have unlike logs. Appending a slice that came in. -/
import Derived.Test.YtoicdepkakgedaaMt
namespace Go.Proofs.Ytoicdepkakgedaa
open Go.RowKit
set_option linter.unusedVariables false
set_option linter.unusedSimpArgs false

theorem endsB_iff (l : List Md) (k : Nat) : endsB l k = true ↔ ∃ j, j ≤ l.length ∧ sizeN (l.take j) = k := by
  induction l generalizing k with
  | nil =>
    cases k with
    | zero => exact ⟨fun _ => ⟨0, by simp, rfl⟩, fun _ => rfl⟩
    | succ k =>
      simp only [endsB, Bool.false_eq_true, false_iff]
      rintro ⟨j, hj, h⟩
      simp [sizeN] at h
  | cons m l ih =>
    cases k with
    | zero => exact ⟨fun _ => ⟨0, by simp, rfl⟩, fun _ => rfl⟩
    | succ k =>
      simp only [endsB, Bool.and_eq_true, decide_eq_true_eq]
      rw [ih]
      constructor
      · rintro ⟨h1, j, hj, h⟩
        exact ⟨j + 1, by simp; omega, by simp only [List.take_succ_cons, sizeN]; omega⟩
      · rintro ⟨j, hj, h⟩
        cases j with
        | zero => simp [sizeN] at h
        | succ j =>
          simp only [List.take_succ_cons, sizeN] at h
          exact ⟨by omega, j, by simp at hj; omega, by omega⟩
/-- Does a record end at k, among the first j? -/
def endsJ (l : List Md) (k j : Nat) : Bool := decide (∃ i, i ≤ j ∧ sizeN (l.take i) = k)
theorem endsJ_zero (l : List Md) (k : Nat) : endsJ l k 0 = decide (k = 0) := by
  unfold endsJ
  apply decide_eq_decide.2
  constructor
  · rintro ⟨i, hi, h⟩
    have : i = 0 := by omega
    subst this
    simpa [sizeN] using h.symm
  · rintro rfl; exact ⟨0, Nat.le_refl _, rfl⟩
theorem endsJ_succ (l : List Md) (k j : Nat) : endsJ l k (j + 1) = (endsJ l k j || decide (sizeN (l.take (j + 1)) = k)) := by
  unfold endsJ
  rw [Bool.eq_iff_iff, Bool.or_eq_true, decide_eq_true_eq, decide_eq_true_eq, decide_eq_true_eq]
  constructor
  · rintro ⟨i, hi, h⟩
    by_cases hij : i = j + 1
    · subst hij; exact .inr h
    · exact .inl ⟨i, by omega, h⟩
  · rintro (⟨i, hi, h⟩ | h)
    · exact ⟨i, by omega, h⟩
    · exact ⟨j + 1, Nat.le_refl _, h⟩
theorem endsJ_all (l : List Md) (k : Nat) : endsJ l k l.length = endsB l k := by
  rw [Bool.eq_iff_iff, endsB_iff]
  unfold endsJ
  rw [decide_eq_true_eq]
theorem logL_inj (p : Int) (l m : List Md) (hl : allB p l = true) (hm : allB p m = true) (h : logL l = logL m) : l = m := by
  have h1 := decL_log p l [] hl
  have h2 := decL_log p m [] hm
  rw [h, h2] at h1
  simpa [decL_nil] using h1.symm
/-- What the calls answer of two lists. -/
theorem back_facts (p : Int) (l m : List Md) (hp : pageB p = true) (hl : allB p l = true) (hm : allB p m = true) (a b : ByteArray) (ha : encS p l = a) (hb : encS p m = b) :
    encE p l = 0 ∧ encE p m = 0 ∧ decV p a = l ∧ decE p a = 0 ∧ decV p (a ++ b) = l ++ m ∧ decE p (a ++ b) = 0 ∧ decide (a = b) = decide (l = m) ∧ a.size = sizeN l ∧ b.size = sizeN m ∧
    ∀ k, k ≤ a.size → decE p (a.extract 0 k) = (if endsB l k then 0 else 7) ∧ (endsB l k = false → decV p (a.extract 0 k) = []) := by
  have ea : a = ⟨(logL l).toArray⟩ := by rw [← ha]; unfold encS; rw [hl]; rfl
  have eb : b = ⟨(logL m).toArray⟩ := by rw [← hb]; unfold encS; rw [hm]; rfl
  have da : a.data.toList = logL l := by rw [ea]
  have db : b.data.toList = logL m := by rw [eb]
  have sa : a.size = sizeN l := by rw [ea]; show (logL l).toArray.size = _; rw [List.size_toArray, logL_length]
  have sb : b.size = sizeN m := by rw [eb]; show (logL m).toArray.size = _; rw [List.size_toArray, logL_length]
  have h1 : decL p a.data.toList = some l := by rw [da]; have := decL_log p l [] hl; simpa [decL_nil] using this
  have h2 : decL p (a ++ b).data.toList = some (l ++ m) := by
    rw [ByteArray.data_append, Array.toList_append, da, db, decL_log p l _ hl]
    have := decL_log p m [] hm
    simp only [List.append_nil, decL_nil] at this
    rw [this]; simp
  obtain ⟨e1, e2⟩ := dec_ok hp h1
  obtain ⟨e3, e4⟩ := dec_ok hp h2
  refine ⟨by unfold encE; rw [hl]; rfl, by unfold encE; rw [hm]; rfl, e1, e2, e3, e4, ?_, sa, sb, fun k hk => ?_⟩
  · apply decide_eq_decide.2
    constructor
    · intro h; exact logL_inj p l m hl hm (by rw [← da, ← db, h])
    · rintro rfl; rw [ea, eb]
  · have hx : (a.extract 0 k).data.toList = (logL l).take k := by rw [Lib.extract_data, da]; simp
    have hc := decL_cut p l k hl (by omega)
    rw [← hx] at hc
    cases hd : decL p (a.extract 0 k).data.toList with
    | none =>
      rw [hd] at hc
      obtain ⟨e5, e6⟩ := dec_no hp hd
      rw [← hc, e6]
      exact ⟨rfl, fun _ => e5⟩
    | some v =>
      rw [hd] at hc
      obtain ⟨e5, e6⟩ := dec_ok hp hd
      rw [← hc, e6]
      exact ⟨rfl, fun h => by cases h⟩

/-- 'append(row, xs...)', xs a slice that came in. -/
theorem run_append_sl {P : Program} (w : World) (t ty e : TypeId) (E : Elem P t e 2 24) (B : Nat) (v : Value) (n : Nat) (xs : List Value) (hown : w.ownsRow B e 2 v n xs) (a0 : Option Addr) (c : Nat) (l : List Md) (hs : SlOf Md.enc 2 w a0 l) (hb : n + l.length ≤ 1000000) (hB : B ≤ w.heap.size) :
    ∃ v' w', (Builtin.append_ #[t, t] ty #[v, .slice a0 l.length c]).run P w = .ok v' w' ∧ w'.ownsRow B e 2 v' (n + l.length) (xs ++ l.flatMap Md.enc) ∧ w.grownBy w' v.ownBlock := by
  obtain ⟨ht, i, z, hi, hz, hsz, hby, hzs, hpos⟩ := E
  have hlen : (l.flatMap Md.enc).length = l.length * 2 := by
    clear hs hb
    induction l with
    | nil => rfl
    | cons m l ih => rw [List.flatMap_cons, List.length_append, ih, List.length_cons]; simp [Md.enc]; omega
  by_cases hl : l = []
  · subst hl
    simp only [List.length_nil, Nat.add_zero, List.flatMap_nil, List.append_nil]
    cases a0 with
    | none =>
      refine ⟨v, w, ?_, hown, World.grownBy.refl w _⟩
      rcases hown.2 with ⟨rfl, h0⟩ | ⟨g, cap, cur, rfl, _, _, hnc, _⟩
      · simp [Builtin.append_, run_underlying ht, sizeOf, typeInfo, hi, Builtin.lenOf, Builtin.firstCells]
      · simp [Builtin.append_, run_underlying ht, sizeOf, typeInfo, hi, Builtin.lenOf, Builtin.firstCells, hnc, storeCells]
    | some ad =>
      obtain ⟨v', w', h1, h2, h3, _⟩ := run_append_own (P := P) w B t ty e i z 2 24 ht hi hz hsz hby hzs hpos v n xs hown ad 0 c [] rfl (fun j u hu => by simp at hu) (by simp) (by unfold maxLen; omega) (by omega) hB
      exact ⟨v', w', h1, by simpa using h2, h3⟩
  · obtain ⟨b, o, rfl, hbl, hc⟩ := hs hl
    have hA : ∀ (j : Nat) (u : Value), (l.flatMap Md.enc)[j]? = some u → w.cell? ((⟨b, o, none⟩ : Addr).add j) = some u := fun j u hu => by
      rw [add_none]
      have hj : j < l.length * 2 := by rw [← hlen]; exact (List.getElem?_eq_some_iff.1 hu).1
      obtain ⟨m, hm⟩ : ∃ m, l[j / 2]? = some m := ⟨l[j / 2]'(by omega), List.getElem?_eq_getElem (by omega)⟩
      have hin : (Md.enc m)[j % 2]? = some ((Md.enc m)[j % 2]'(by rw [md_len]; omega)) := List.getElem?_eq_getElem _
      have hg := flatMap_get (enc := Md.enc) (sz := 2) md_len hm (Nat.mod_lt j (by decide)) hin
      rw [show j / 2 * 2 + j % 2 = j by omega] at hg
      rw [hg] at hu
      injection hu with hu
      subst hu
      have := hc (j / 2) m hm (j % 2) _ hin
      rw [show o + (j / 2 * 2 + j % 2) = o + j by omega] at this
      exact this
    have hB1 : ∀ u ∈ l.flatMap Md.enc, u.oneCell' = true := fun u hu => by
      obtain ⟨m, hm, hu⟩ := List.mem_flatMap.1 hu
      simp [Md.enc] at hu
      rcases hu with rfl | rfl <;> rfl
    obtain ⟨v', w', h1, h2, h3, _⟩ := run_append_own (P := P) w B t ty e i z 2 24 ht hi hz hsz hby hzs hpos v n xs hown ⟨b, o, none⟩ l.length c (l.flatMap Md.enc) hlen hA hB1 (by unfold maxLen; omega) (by omega) hB
    exact ⟨v', w', h1, h2, h3⟩
end Go.Proofs.Ytoicdepkakgedaa
