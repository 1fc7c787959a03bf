/- The codes of lengths: canon.Codes; rows of numbers and of codes that a call made. -/
import Derived.Test.YtciejmlhdmjajaaGreatKRg
import Derived.Test.YtciejmlhdmjajaaGreatKRw
import Derived.Test.YtciejmlhdmjajaaGreatKHe
namespace Go.Proofs.YtciejmlhdmjajaaGreat
open Go.RowKit
set_option linter.unusedVariables false
set_option linter.unusedSimpArgs false

/-- A row of n numbers of a kind, in a block of their own. -/
def Nrow (w : World) (g : Nat) (T : TypeId) (kd : IntKind) (n : Nat) (F : Nat → Nat) : Prop := w.heap[g]? = some (.cells ((List.range n).map fun j => Value.int kd (F j : Int)).toArray T (0, 0))
theorem Nrow.cell {w : World} {g n : Nat} {T : TypeId} {kd : IntKind} {F : Nat → Nat} (h : Nrow w g T kd n F) (k : Nat) (hk : k < n) : w.cell? ⟨g, k, none⟩ = some (.int kd (F k : Int)) := by
  rw [cell_of h]; simp [hk]
theorem Nrow.set_ {w : World} {g n : Nat} {T : TypeId} {kd : IntKind} {F G : Nat → Nat} (h : Nrow w g T kd n F) (k x : Nat) (hG : ∀ j, j < n → G j = if j = k then x else F j) : Nrow (w.setCell ⟨g, k, none⟩ (.int kd (x : Int))) g T kd n G := by
  unfold Nrow
  rw [set_of h k]
  congr 2
  apply Array.ext'
  simp only [List.setIfInBounds_toArray]
  apply List.ext_getElem
  · simp
  · intro j h1 h2
    have hj : j < n := by simpa using h2
    rw [List.getElem_set]
    simp only [List.getElem_map, List.getElem_range]
    rw [hG j hj]
    by_cases hjk : k = j
    · subst hjk; simp
    · rw [if_neg hjk, if_neg (fun e => hjk e.symm)]
theorem Nrow.to {w w' : World} {g n : Nat} {T : TypeId} {kd : IntKind} {F : Nat → Nat} {l : List Nat} (h : Nrow w g T kd n F) (k : Fr l w w') (hb : g ∉ l) : Nrow w' g T kd n F := k.blk h hb
theorem Nrow.congr {w : World} {g n : Nat} {T : TypeId} {kd : IntKind} {F G : Nat → Nat} (h : Nrow w g T kd n F) (hG : ∀ j, j < n → G j = F j) : Nrow w g T kd n G := by
  unfold Nrow at h ⊢
  rw [h]
  congr 3
  apply List.map_congr_left
  intro j hj
  rw [hG j (List.mem_range.1 hj)]

/-- A code's cells. -/
def Cd (p : Nat × Nat) : List Value := [.int .u32 (p.1 : Int), .int .u8 (p.2 : Int)]
theorem cd_len (p : Nat × Nat) : (Cd p).length = 2 := rfl
/-- A row of pairs, as cells, in a block of its own. -/
def Prow (enc : Nat × Nat → List Value) (T : TypeId) (w : World) (g n : Nat) (F : Nat → Nat × Nat) : Prop := w.heap[g]? = some (.cells ((List.range n).flatMap fun j => enc (F j)).toArray T (0, 0))
theorem two_get {enc : Nat × Nat → List Value} (he : ∀ p, (enc p).length = 2) (F : Nat → Nat × Nat) (n k j : Nat) (hk : k < n) (hj : j < 2) : ((List.range n).flatMap fun i => enc (F i))[2 * k + j]? = (enc (F k))[j]? := by
  have e : (List.range n).flatMap (fun i => enc (F i)) = ((List.range n).map F).flatMap enc := by rw [List.flatMap_map]
  obtain ⟨u, hu⟩ : ∃ u, (enc (F k))[j]? = some u := ⟨(enc (F k))[j]'(by rw [he]; exact hj), List.getElem?_eq_getElem _⟩
  rw [e, hu]
  have hgen : ∀ (l : List (Nat × Nat)) (k : Nat) (x : Nat × Nat), l[k]? = some x → (enc x)[j]? = some u → (l.flatMap enc)[2 * k + j]? = some u := by
    intro l
    induction l with
    | nil => intro k x h; simp at h
    | cons y l ih =>
      intro k x h hx
      cases k with
      | zero => simp at h; subst h; rw [List.flatMap_cons, Nat.mul_zero, Nat.zero_add, List.getElem?_append_left (by rw [he]; exact hj)]; exact hx
      | succ k => rw [List.flatMap_cons, List.getElem?_append_right (by rw [he]; omega), he, show 2 * (k + 1) + j - 2 = 2 * k + j by omega]; exact ih k x (by simpa using h) hx
  exact hgen _ k (F k) (by simp [hk]) hu
theorem Prow.cell {enc : Nat × Nat → List Value} {T : TypeId} {w : World} {g n : Nat} {F : Nat → Nat × Nat} (h : Prow enc T w g n F) (he : ∀ p, (enc p).length = 2) (k j : Nat) (hk : k < n) (hj : j < 2) : w.cell? ⟨g, k * 2 + j, none⟩ = (enc (F k))[j]? := by
  rw [cell_of h, Nat.mul_comm k 2]
  simp only [List.getElem?_toArray]
  exact two_get he F n k j hk hj
theorem Prow.to {enc : Nat × Nat → List Value} {T : TypeId} {w w' : World} {g n : Nat} {F : Nat → Nat × Nat} {l : List Nat} (h : Prow enc T w g n F) (k : Fr l w w') (hb : g ∉ l) : Prow enc T w' g n F := k.blk h hb
theorem flatMap_two {α : Type} (f : α → List Value) (h : ∀ x, (f x).length = 2) (l : List α) : (l.flatMap f).length = 2 * l.length := by
  induction l with
  | nil => rfl
  | cons x l ih => rw [List.flatMap_cons, List.length_append, h, ih, List.length_cons]; omega
theorem flatMap_alike {α : Type} (f g : α → List Value) (l : List α) (h : ∀ x ∈ l, f x = g x) : l.flatMap f = l.flatMap g := by
  induction l with
  | nil => rfl
  | cons x l ih => rw [List.flatMap_cons, List.flatMap_cons, h x (by simp), ih (fun y hy => h y (by simp [hy]))]
theorem two_set {enc : Nat × Nat → List Value} (he : ∀ p, (enc p).length = 2) (F G : Nat → Nat × Nat) (n k : Nat) (hk : k < n) (u v : Value) (hG : ∀ j, j < n → j ≠ k → G j = F j) (hu : enc (G k) = [u, v]) :
    (((List.range n).flatMap fun i => enc (F i)).set (2 * k) u).set (2 * k + 1) v = (List.range n).flatMap fun i => enc (G i) := by
  have hlen : ∀ F : Nat → Nat × Nat, ((List.range n).flatMap fun i => enc (F i)).length = 2 * n := fun F => by
    rw [flatMap_two _ (fun i => he (F i)), List.length_range]
  apply List.ext_getElem?
  intro i
  by_cases hi : i < 2 * n
  · have e : i = 2 * (i / 2) + i % 2 := by omega
    have hq : i / 2 < n := by omega
    have hr : i % 2 < 2 := by omega
    generalize i / 2 = q at *
    generalize i % 2 = r at *
    subst e
    rw [two_get he G n q r hq hr]
    by_cases hqk : q = k
    · subst hqk
      rw [hu]
      rcases (show r = 0 ∨ r = 1 by omega) with rfl | rfl
      · rw [List.getElem?_set_ne (by omega), Nat.add_zero, List.getElem?_set_self (by rw [hlen]; omega)]; rfl
      · rw [List.getElem?_set_self (by rw [List.length_set, hlen]; omega)]; rfl
    · rw [List.getElem?_set_ne (by omega), List.getElem?_set_ne (by omega), two_get he F n q r hq hr, hG q hq hqk]
  · rw [List.getElem?_eq_none (by rw [List.length_set, List.length_set, hlen]; omega), List.getElem?_eq_none (by rw [hlen]; omega)]
theorem Prow.set_ {enc : Nat × Nat → List Value} {T : TypeId} {w : World} {g n : Nat} {F G : Nat → Nat × Nat} (h : Prow enc T w g n F) (he : ∀ p, (enc p).length = 2) (k : Nat) (hk : k < n) (u v : Value) (hG : ∀ j, j < n → j ≠ k → G j = F j) (hu : enc (G k) = [u, v]) :
    Prow enc T ((w.setCell ⟨g, k * 2, none⟩ u).setCell ⟨g, k * 2 + 1, none⟩ v) g n G := by
  unfold Prow
  rw [Nat.mul_comm k 2]
  rw [set_of (set_of h (2 * k) u) (2 * k + 1) v]
  congr 2
  apply Array.ext'
  simp only [List.setIfInBounds_toArray]
  exact two_set he F G n k hk u v hG hu
theorem set_same_ {L : List Value} {i j : Nat} {u v : Value} (h : L[j]? = some v) (hij : i ≠ j) : (L.set i u).set j v = L.set i u := by
  apply List.ext_getElem?
  intro n
  rw [List.getElem?_set]
  by_cases hn : j = n
  · subst hn
    have hl : j < (L.set i u).length := by rw [List.length_set]; exact (List.getElem?_eq_some_iff.1 h).1
    rw [if_pos rfl, if_pos hl, List.getElem?_set_ne hij, h]
  · rw [if_neg hn]
/-- The first of a pair's cells is written. -/
theorem Prow.set0 {enc : Nat × Nat → List Value} {T : TypeId} {w : World} {g n : Nat} {F G : Nat → Nat × Nat} (h : Prow enc T w g n F) (he : ∀ p, (enc p).length = 2) (k : Nat) (hk : k < n) (u v : Value) (hG : ∀ j, j < n → j ≠ k → G j = F j) (hu : enc (G k) = [u, v]) (hv : (enc (F k))[1]? = some v) :
    Prow enc T (w.setCell ⟨g, k * 2, none⟩ u) g n G := by
  unfold Prow
  rw [Nat.mul_comm k 2, set_of h (2 * k) u]
  congr 2
  apply Array.ext'
  simp only [List.setIfInBounds_toArray]
  rw [← two_set he F G n k hk u v hG hu, set_same_ (by rw [two_get he F n k 1 hk (by omega), hv]) (by omega)]
theorem Prow.congr {enc : Nat × Nat → List Value} {T : TypeId} {w : World} {g n : Nat} {F G : Nat → Nat × Nat} (h : Prow enc T w g n F) (hG : ∀ j, j < n → G j = F j) : Prow enc T w g n G := by
  unfold Prow at h ⊢
  rw [h]
  congr 3
  exact flatMap_alike _ _ _ fun j hj => by rw [hG j (List.mem_range.1 hj)]

theorem cdinfo : ∃ i0 : TypeInfo, Tryz.prog.info? 99 = some i0 ∧ i0.zero = some (.agg #[.int .u32 0, .int .u8 0]) ∧ i0.size = 2 ∧ i0.bytes = 8 :=
  info_parts (show (Tryz.prog.info? 99).map (fun i => (i.zero, i.size, i.bytes)) = some (some (.agg #[.int .u32 0, .int .u8 0]), 2, 8) by kernel_rfl)
theorem made_two (a b : Value) (n : Nat) : madeCells #[a, b] (n * 2) = ((List.range n).flatMap fun _ => [a, b]).toArray := by
  apply Array.ext
  · rw [size_madeCells, List.size_toArray, flatMap_two _ (fun _ => rfl), List.length_range]; omega
  · intro i h1 h2
    rw [size_madeCells] at h1
    have e : i = 2 * (i / 2) + i % 2 := by omega
    have hq : i / 2 < n := by omega
    have hr : i % 2 < 2 := by omega
    have h3 := two_get (enc := fun _ => [a, b]) (fun _ => rfl) (fun _ => (0, 0)) n (i / 2) (i % 2) hq hr
    rw [← e] at h3
    have h4 : ((List.range n).flatMap fun _ => [a, b]).toArray[i]? = [a, b][i % 2]? := by rw [List.getElem?_toArray]; exact h3
    have h5 : (madeCells #[a, b] (n * 2))[i]? = [a, b][i % 2]? := by
      rw [Array.getElem?_eq_getElem (by rw [size_madeCells]; exact h1)]
      simp only [madeCells, Array.getElem_map, Array.getElem_range]
      rcases (show i % 2 = 0 ∨ i % 2 = 1 by omega) with h | h
      · simp [h]
      · simp [h]
    have h6 := h5.trans h4.symm
    rw [Array.getElem?_eq_getElem (by rw [size_madeCells]; exact h1), Array.getElem?_eq_getElem h2] at h6
    exact Option.some.inj h6
theorem run_make_codes (n : Nat) (hn : n ≤ 1000000000) (w : World) : (Instr.makeSlice 94 (.int .i64 (n : Int)) (.int .i64 (n : Int))).run Tryz.prog w =
    .ok (.slice (some ⟨w.heap.size, 0, none⟩) n n) (w.alloc (.cells ((List.range n).flatMap fun j => Cd ((fun _ => (0, 0)) j)).toArray 99)) := by
  obtain ⟨i0, hi, hz0, hz1, hz2⟩ := cdinfo
  have h := run_make (P := Tryz.prog) w 94 99 i0 _ Tryz.underlying94 hi hz0 .i64 .i64 n n (by omega) (Int.le_refl _) (by rw [hz2]; omega) (by omega)
  rw [h, hz1, Int.toNat_natCast]
  exact congrArg (fun x => Result.ok (Value.slice (some ⟨w.heap.size, 0, none⟩) n n) (w.alloc (.cells x 99))) (made_two (.int .u32 0) (.int .u8 0) n)
/-- A symbol's code, nothing if there is none. -/
def codeP (l : List Nat) (s : Nat) : Nat × Nat := if l.getD s 0 = 0 then (0, 0) else (codeN l s, l.getD s 0)
end Go.Proofs.YtciejmlhdmjajaaGreat

