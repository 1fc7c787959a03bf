/- A table's cells, in plain Lean: what stands in each behind all symbols, and that this is what is looked for. How many codes there are of each length: canon's tally, a table of sixteen numbers. -/
import Derived.Test.YtciejmlhdmjajaaKHb
import Derived.Test.YtciejmlhdmjajaaKSl
import Derived.Laws.Rows
import Derived.Laws.Tables
import Derived.Laws.ResultCell
namespace Go.Proofs.Ytciejmlhdmjajaa
open Go.RowKit
set_option linter.unusedVariables false
set_option linter.unusedSimpArgs false

/-- A cell of the first table, behind the first j symbols. -/
def cellF (l : List Nat) (F : Nat) : Nat → Nat → Nat × Nat
  | 0, _ => (0, 0)
  | j + 1, i => if 0 < l.getD j 0 ∧ l.getD j 0 ≤ F ∧ i % 2 ^ l.getD j 0 = wb l j then (j, l.getD j 0) else cellF l F j i
/-- Is a symbol's code longer than the first table's bits, and begins it with row k? -/
def inRow (l : List Nat) (F k s : Nat) : Bool := decide (F < l.getD s 0 ∧ wb l s % 2 ^ F = k)
/-- How long row k's codes are at most, behind the first table's bits; 0: there is none. -/
def lng (l : List Nat) (F : Nat) : Nat → Nat → Nat
  | 0, _ => 0
  | j + 1, k => if inRow l F k j then max (lng l F j k) (l.getD j 0 - F) else lng l F j k
/-- A cell of row k's table, behind the first j symbols. -/
def cellM (l : List Nat) (F k : Nat) : Nat → Nat → Nat × Nat
  | 0, _ => (0, 0)
  | j + 1, i => if inRow l F k j ∧ i % 2 ^ (l.getD j 0 - F) = wb l j / 2 ^ F then (j, l.getD j 0) else cellM l F k j i

theorem cellF_or (l : List Nat) (F j i : Nat) : cellF l F j i = (0, 0) ∧ (∀ s, s < j → l.getD s 0 ≤ F → fits l i s = false) ∨ ∃ s, s < j ∧ cellF l F j i = (s, l.getD s 0) ∧ fits l i s = true ∧ l.getD s 0 ≤ F := by
  induction j with
  | zero => left; exact ⟨rfl, fun s hs => by omega⟩
  | succ j ih =>
    simp only [cellF]
    by_cases h : 0 < l.getD j 0 ∧ l.getD j 0 ≤ F ∧ i % 2 ^ l.getD j 0 = wb l j
    · right
      rw [if_pos h]
      exact ⟨j, by omega, rfl, by unfold fits; rw [decide_eq_true_eq]; exact ⟨h.1, h.2.2⟩, h.2.1⟩
    · rw [if_neg h]
      rcases ih with ⟨h1, h2⟩ | ⟨s, h1, h2⟩
      · left
        refine ⟨h1, fun s hs hF => ?_⟩
        by_cases hsj : s = j
        · subst hsj
          unfold fits
          rw [decide_eq_false_iff_not]
          exact fun k => h ⟨k.1, hF, k.2⟩
        · exact h2 s (by omega) hF
      · right; exact ⟨s, by omega, h2⟩
theorem cellM_or (l : List Nat) (F k j i : Nat) : cellM l F k j i = (0, 0) ∧ (∀ s, s < j → inRow l F k s = true → i % 2 ^ (l.getD s 0 - F) ≠ wb l s / 2 ^ F) ∨ ∃ s, s < j ∧ cellM l F k j i = (s, l.getD s 0) ∧ inRow l F k s = true ∧ i % 2 ^ (l.getD s 0 - F) = wb l s / 2 ^ F := by
  induction j with
  | zero => left; exact ⟨rfl, fun s hs => by omega⟩
  | succ j ih =>
    simp only [cellM]
    by_cases h : inRow l F k j = true ∧ i % 2 ^ (l.getD j 0 - F) = wb l j / 2 ^ F
    · right
      rw [if_pos h]
      exact ⟨j, by omega, rfl, h.1, h.2⟩
    · rw [if_neg h]
      rcases ih with ⟨h1, h2⟩ | ⟨s, h1, h2⟩
      · left
        refine ⟨h1, fun s hs hF => ?_⟩
        by_cases hsj : s = j
        · subst hsj; exact fun e => h ⟨hF, e⟩
        · exact h2 s (by omega) hF
      · right; exact ⟨s, by omega, h2⟩
theorem lng_ge (l : List Nat) (F j k s : Nat) (hs : s < j) (h : inRow l F k s = true) : l.getD s 0 - F ≤ lng l F j k := by
  induction j with
  | zero => omega
  | succ j ih =>
    simp only [lng]
    by_cases hsj : s = j
    · subst hsj; rw [if_pos h]; exact Nat.le_max_right _ _
    · have := ih (by omega)
      split
      · exact Nat.le_trans this (Nat.le_max_left _ _)
      · exact this
theorem lng_pos (l : List Nat) (F j k : Nat) (h : 0 < lng l F j k) : ∃ s, s < j ∧ inRow l F k s = true := by
  induction j with
  | zero => simp [lng] at h
  | succ j ih =>
    simp only [lng] at h
    by_cases hj : inRow l F k j = true
    · exact ⟨j, by omega, hj⟩
    · rw [if_neg hj] at h
      obtain ⟨s, h1, h2⟩ := ih h
      exact ⟨s, by omega, h2⟩
theorem lng_le (l : List Nat) (F j k : Nat) (h : ∀ x ∈ l, x ≤ 15) : lng l F j k ≤ 15 - F := by
  have hx : ∀ s, l.getD s 0 ≤ 15 := fun s => by
    cases hs : l[s]? with
    | none => simp [List.getD, hs]
    | some n => rw [getD_of hs]; exact h n (List.mem_of_getElem? hs)
  induction j with
  | zero => simp [lng]
  | succ j ih =>
    simp only [lng]
    have := hx j
    split
    · omega
    · exact ih
theorem lng_no (l : List Nat) (F j k : Nat) (h : 2 ^ F ≤ k) : lng l F j k = 0 := by
  rcases Nat.eq_zero_or_pos (lng l F j k) with h0 | h0
  · exact h0
  · obtain ⟨s, _, h2⟩ := lng_pos l F j k h0
    unfold inRow at h2
    rw [decide_eq_true_eq] at h2
    have := Nat.mod_lt (wb l s) (show 0 < 2 ^ F from Nat.pow_pos (by decide))
    omega

theorem pow_mul_mod (x F n : Nat) (h : F ≤ n) : x % 2 ^ n = x % 2 ^ F + 2 ^ F * (x / 2 ^ F % 2 ^ (n - F)) := by
  rw [show 2 ^ n = 2 ^ F * 2 ^ (n - F) by rw [← Nat.pow_add]; congr 1; omega, Nat.mod_mul]
theorem wb_fits {l : List Nat} {t n : Nat} (ht : l[t]? = some n) (hn : 0 < n) : fits l (wb l t) t = true := by
  unfold fits
  rw [decide_eq_true_eq, getD_of ht]
  exact ⟨hn, Nat.mod_eq_of_lt (wb_lt l t n ht)⟩
theorem get_of_pos {l : List Nat} {s : Nat} (h : 0 < l.getD s 0) : ∃ n, l[s]? = some n ∧ l.getD s 0 = n ∧ 0 < n := by
  cases hh : l[s]? with
  | none => simp [List.getD, hh] at h
  | some m => exact ⟨m, rfl, getD_of hh, by rwa [getD_of hh] at h⟩
/-- What a look into the table finds. -/
def cellOf (l : List Nat) (F y : Nat) : Nat × Nat :=
  if lng l F l.length (y % 2 ^ F) = 0 then cellF l F l.length (y % 2 ^ F) else cellM l F (y % 2 ^ F) l.length (y / 2 ^ F % 2 ^ lng l F l.length (y % 2 ^ F))
theorem cellOf_eq (l : List Nat) (F y : Nat) (hf : Fine l) : cellOf l F y = match findS l y with
    | none => (0, 0)
    | some s => (s, l.getD s 0) := by
  unfold cellOf
  by_cases h0 : lng l F l.length (y % 2 ^ F) = 0
  · rw [if_pos h0]
    rcases cellF_or l F l.length (y % 2 ^ F) with ⟨h1, h2⟩ | ⟨s, h1, h2, h3, h4⟩
    · rw [h1]
      cases e : findS l y with
      | none => rfl
      | some s =>
        exfalso
        have hs := findS_some e
        obtain ⟨n, g1, g2, g3⟩ := fits_get hs
        have hl := (List.getElem?_eq_some_iff.1 g1).1
        by_cases hn : n ≤ F
        · have := h2 s hl (by omega)
          rw [fits_mod l y s F (by omega), hs] at this
          cases this
        · have hin : inRow l F (y % 2 ^ F) s = true := by
            unfold inRow
            unfold fits at hs
            rw [decide_eq_true_eq] at hs ⊢
            refine ⟨by omega, ?_⟩
            rw [← hs.2, g3, Nat.mod_mod_of_dvd _ (Nat.pow_dvd_pow 2 (by omega))]
          have := lng_ge l F l.length _ s hl hin
          omega
    · rw [h2]
      rw [fits_mod l y s F h4] at h3
      rw [findS_of hf h3]
  · rw [if_neg h0]
    obtain ⟨t, ht1, ht2⟩ := lng_pos l F l.length (y % 2 ^ F) (by omega)
    have ht2' := ht2
    unfold inRow at ht2'
    rw [decide_eq_true_eq] at ht2'
    obtain ⟨nt, ht3, ht4, ht5⟩ := get_of_pos (l := l) (s := t) (by omega)
    rcases cellM_or l F (y % 2 ^ F) l.length (y / 2 ^ F % 2 ^ lng l F l.length (y % 2 ^ F)) with ⟨h1, h2⟩ | ⟨s, h1, h2, h3, h4⟩
    · rw [h1]
      cases e : findS l y with
      | none => rfl
      | some s =>
        exfalso
        have hs := findS_some e
        obtain ⟨n, g1, g2, g3⟩ := fits_get hs
        have hl := (List.getElem?_eq_some_iff.1 g1).1
        have hs' := hs
        unfold fits at hs'
        rw [decide_eq_true_eq, g3] at hs'
        by_cases hn : n ≤ F
        · have hft : fits l (wb l t) s = true := by
            unfold fits
            rw [decide_eq_true_eq, g3]
            refine ⟨g2, ?_⟩
            rw [← hs'.2, ← Nat.mod_mod_of_dvd (wb l t) (Nat.pow_dvd_pow 2 hn), ht2'.2, Nat.mod_mod_of_dvd _ (Nat.pow_dvd_pow 2 hn)]
          have := fits_one hf hft (wb_fits ht3 ht5)
          subst this
          omega
        · have hin : inRow l F (y % 2 ^ F) s = true := by
            unfold inRow
            rw [decide_eq_true_eq, g3]
            refine ⟨by omega, ?_⟩
            rw [← hs'.2, Nat.mod_mod_of_dvd _ (Nat.pow_dvd_pow 2 (by omega))]
          have hge := lng_ge l F l.length _ s hl hin
          apply h2 s hl hin
          rw [Nat.mod_mod_of_dvd _ (Nat.pow_dvd_pow 2 hge), ← hs'.2, g3, pow_mul_mod y F n (by omega), Nat.add_mul_div_left _ _ (Nat.pow_pos (by decide)), Nat.div_eq_of_lt (Nat.mod_lt _ (Nat.pow_pos (by decide))), Nat.zero_add]
    · rw [h2]
      have h3' := h3
      unfold inRow at h3'
      rw [decide_eq_true_eq] at h3'
      obtain ⟨n, g1, g2, g3⟩ := get_of_pos (l := l) (s := s) (by omega)
      have hl := (List.getElem?_eq_some_iff.1 g1).1
      have hge := lng_ge l F l.length _ s hl h3
      have hfit : fits l y s = true := by
        unfold fits
        rw [decide_eq_true_eq]
        refine ⟨by omega, ?_⟩
        rw [Nat.mod_mod_of_dvd _ (Nat.pow_dvd_pow 2 hge)] at h4
        rw [pow_mul_mod y F (l.getD s 0) (by omega), h4, ← h3'.2, Nat.mod_add_div]
      rw [findS_of hf hfit]
end Go.Proofs.Ytciejmlhdmjajaa
namespace Go.Proofs.Ytciejmlhdmjajaa
open Go.RowKit
set_option linter.unusedVariables false
set_option linter.unusedSimpArgs false

/-- A byte's cells. -/
def U8 (n : Nat) : List Value := [.int .u8 (n : Int)]
theorem u8_len (n : Nat) : (U8 n).length = 1 := rfl
/-- Sixteen numbers. -/
def A16 (F : Nat → Nat) : Array Value := ((List.range 16).map fun j => Value.int .i64 (F j : Int)).toArray
def Arow (w : World) (g : Nat) (F : Nat → Nat) : Prop := w.heap[g]? = some (.cells (A16 F) 152 (0, 0))
theorem Arow.cell {w : World} {g : Nat} {F : Nat → Nat} (h : Arow w g F) (k : Nat) (hk : k < 16) : w.cell? ⟨g, k, none⟩ = some (.int .i64 (F k : Int)) := by
  rw [cell_of h]; simp [A16, hk]
theorem Arow.set_ {w : World} {g : Nat} {F G : Nat → Nat} (h : Arow w g F) (k : Nat) (hk : k < 16) (hG : ∀ j, j < 16 → G j = F j + (if k = j then 1 else 0)) : Arow (w.setCell ⟨g, k, none⟩ (.int .i64 ((F k + 1 : Nat) : Int))) g G := by
  unfold Arow
  rw [set_of h k]
  congr 2
  unfold A16
  apply Array.ext'
  simp only [List.setIfInBounds_toArray]
  apply List.ext_getElem
  · simp
  · intro j h1 h2
    have hj : j < 16 := by simpa using h2
    rw [List.getElem_set]
    simp only [List.getElem_map, List.getElem_range]
    rw [hG j hj]
    by_cases hjk : k = j
    · subst hjk; simp
    · rw [if_neg hjk, if_neg hjk]; simp
theorem Arow.to {w w' : World} {g : Nat} {F : Nat → Nat} {l : List Nat} (h : Arow w g F) (k : Fr l w w') (hb : g ∉ l) : Arow w' g F := k.blk h hb

theorem results_row_tmp {P : Program} {fn : Func} {p u : Tmp} {ty : TypeId} (h : fn.results = #[.cell p ty, .tmp u]) (tmps : Array Value) (w : World) (g : Nat) (t : TypeId) (cs : Array Value) (fr : Nat × Nat) (d : TypeDesc)
    (hp : tmps.getD p undef = .pointer (some ⟨g, 0, none⟩)) (hg : w.heap[g]? = some (.cells cs t fr))
    (hu : P.underlying ty = some d) (hd : (match d with | .struct _ | .array _ _ => true | _ => false) = true) (hi : (P.info? ty).map (·.size) = some cs.size) :
    (results fn tmps).run P w = .ok (.tuple #[.agg cs, tmps.getD u undef]) w := by
  rw [results_cell_tmp h, hp]
  simp [asAddr, run_loadVar_row w g t ty cs fr d hg hu hd hi, Result.andThen]

set_option maxRecDepth 2000000 in
set_option maxHeartbeats 1600000 in
theorem tally_any (a : Option Addr) (c : Nat) (l : List Nat) (w : World) (hs : SlOf U8 1 w a l) (hl : l.length ≤ 9223372036854775807) (h8 : ∀ x ∈ l, x < 256) :
    Calls Try.prog 92 #[.slice a l.length c] w fun e w' => ∃ F, e = .returned (.tuple #[.agg (A16 F), .bool (!badL l)]) ∧ (badL l = false → F = cnt l) ∧ Fr [] w w' := by
  have HS := Lib.hid hs
  have H8 := Lib.hid h8
  have hl1 : (l.length : Int) ≤ 9223372036854775807 := by omega
  clear hs h8 hl
  have hu16 : Try.prog.underlying 152 = some (.array 16 3) := by kernel_rfl
  have hi16 : ∀ F, (Try.prog.info? 152).map (·.size) = some (A16 F).size := fun F => by unfold A16; rw [List.size_toArray, List.length_map, List.length_range]; kernel_rfl
  have hone : ∀ F, (A16 F).all (·.oneCell') = true := fun F => by unfold A16; simp [Value.oneCell']
  have HU := Lib.hid (And.intro hu16 (And.intro hi16 hone))
  clear hu16 hi16 hone
  by_cases hbig : 320 < l.length
  · have hb : badL l = true := by unfold badL; rw [decide_eq_true hbig]; rfl
    have h1 : (320 : Int) < (l.length : Int) := by omega
    rw [hb]
    clear hb hbig
    go_enter Try.func92, Try.ntmps92
    go_wp2_with fail
    (try simp only [Exit.inBlock, Exit.then])
    refine bodyPost_ret (results_row_tmp rfl _ _ w.heap.size 152 (A16 fun _ => 0) (0, 0) _ rfl (new_of w _) HU.out.1 rfl (HU.out.2.1 _)) rfl ?_
    exact ⟨fun _ => 0, rfl, (fun h => by simp at h), Fr.alloc _ _ _⟩
  · have h1 : (l.length : Int) ≤ 320 := by omega
    go_enter Try.func92, Try.ntmps92
    go_wp2_with fail
    have F0 : Hid (Arow (w.alloc (Obj.cells #[Value.int IntKind.i64 0, Value.int IntKind.i64 0, Value.int IntKind.i64 0, Value.int IntKind.i64 0, Value.int IntKind.i64 0, Value.int IntKind.i64 0, Value.int IntKind.i64 0, Value.int IntKind.i64 0, Value.int IntKind.i64 0, Value.int IntKind.i64 0, Value.int IntKind.i64 0, Value.int IntKind.i64 0, Value.int IntKind.i64 0, Value.int IntKind.i64 0, Value.int IntKind.i64 0, Value.int IntKind.i64 0] 152)) w.heap.size (cnt (l.take 0))) := Lib.hid (new_of w _)
    have F1 := Lib.hid ((Fr.alloc [] w (Obj.cells #[Value.int IntKind.i64 0, Value.int IntKind.i64 0, Value.int IntKind.i64 0, Value.int IntKind.i64 0, Value.int IntKind.i64 0, Value.int IntKind.i64 0, Value.int IntKind.i64 0, Value.int IntKind.i64 0, Value.int IntKind.i64 0, Value.int IntKind.i64 0, Value.int IntKind.i64 0, Value.int IntKind.i64 0, Value.int IntKind.i64 0, Value.int IntKind.i64 0, Value.int IntKind.i64 0, Value.int IntKind.i64 0] 152)).below)
    go_loopw [5, 12] (fun n i wr => ∃ j : Nat, j ≤ l.length ∧ i = .int .i64 j ∧ n = n ∧ (∀ x ∈ l.take j, x ≤ 15) ∧ Arow wr w.heap.size (cnt (l.take j)) ∧ Below w.heap.size w wr) (fun _ i _ => l.length - (intOf i).toNat)
    case atStart => exact ⟨0, Nat.zero_le _, rfl, rfl, fun x hx => by simp at hx, F0.out, F1.out⟩
    case round =>
      obtain ⟨j, hj, rfl, _, h15, hA, hB⟩ := hrel
      by_cases hjl : j < l.length
      · obtain ⟨x, hx⟩ : ∃ x, l[j]? = some x := ⟨l[j], List.getElem?_eq_getElem hjl⟩
        obtain ⟨b, o, rfl, hbl, hcell⟩ := (HS.out.below hB) (by intro h; rw [h] at hx; simp at hx)
        have c0 := hcell j x hx 0 (.int .u8 (x : Int)) rfl
        rw [Nat.mul_one, Nat.add_zero] at c0
        have hx8 := H8.out x (List.mem_of_getElem? hx)
        have hji : (j : Int) < (l.length : Int) := by omega
        have hj0 : 0 ≤ (j : Int) := by omega
        by_cases hx15 : x ≤ 15
        · have hxi : (x : Int) ≤ 15 := by omega
          have hx0 : 0 ≤ (x : Int) := by omega
          have k0 := hA.cell x (by omega)
          have kz := free_of hA x
          have hset := hA.set_ (G := cnt (l.take (j + 1))) x (by omega) (fun q hq => cnt_take l j q x hx)
          have hle := cnt_le (l.take j) x
          rw [List.length_take] at hle
          obtain ⟨q, hq⟩ : ∃ q, cnt (l.take j) x = q := ⟨_, rfl⟩
          rw [hq] at k0 hset hle
          have hqi : (q : Int) ≤ 320 := by omega
          have hqw : ((q : Int) + 1) = ((q + 1 : Nat) : Int) := by omega
          have HG := Lib.hid (And.intro hset (And.intro hB (And.intro hqw (fun y (hy : y ∈ l.take (j + 1)) => by
            rw [List.take_add_one, hx] at hy
            rcases List.mem_append.1 hy with hy | hy
            · exact h15 y hy
            · simp at hy; omega : ∀ y ∈ l.take (j + 1), y ≤ 15))))
          clear hcell hset hle hq hqw hA hB h15 hx8 hbl hx hx15
          go_wp2_with fail
          go_roundw
          case rel => exact ⟨j + 1, by omega, by go_num, trivial, HG.out.2.2.2, by rw [HG.out.2.2.1]; exact HG.out.1, (Fr.setCell _ _ _ _).out HG.out.2.1 (by simp)⟩
          case measure => simp [intOf]; omega
        · have hxi : (15 : Int) < (x : Int) := by omega
          have hb : badL l = true := by
            unfold badL
            rw [Bool.or_eq_true]
            right
            exact List.any_eq_true.2 ⟨x, List.mem_of_getElem? hx, decide_eq_true (by omega)⟩
          have HA := Lib.hid (And.intro hA (And.intro hB hb))
          have hxi' : (x : Int) ≤ 255 := by omega
          clear hcell hA hB h15 hx8 hbl hx hx15 hb
          go_wp2_with (first | (refine wpList_load_row rfl 152 _ rfl w.heap.size rfl 152 _ (0, 0) _ HA.out.1 HU.out.1 rfl (HU.out.2.1 _) ?_) | (refine wpList_store_row rfl 152 _ _ rfl w.heap.size _ rfl rfl 152 _ HA.out.1 (HU.out.2.1 _) rfl (HU.out.2.2 _) ?_))
          (try simp only [Exit.inBlock, Exit.then])
          rw [HA.out.2.2]
          refine bodyPost_ret (results_row_tmp rfl _ _ w.heap.size 152 (A16 _) (0, 0) _ rfl (setRow_heap _ _ _ _ _ _ HA.out.1) HU.out.1 rfl (HU.out.2.1 _)) rfl ?_
          exact ⟨_, rfl, (fun h => by simp at h), Fr.of_below (below_setRow HA.out.2.1 (Nat.le_refl _) _)⟩
      · have hje : j = l.length := by omega
        subst hje
        rw [List.take_length] at hA h15
        have hb : badL l = false := by
          unfold badL
          rw [Bool.or_eq_false_iff, decide_eq_false_iff_not]
          exact ⟨hbig, List.any_eq_false.2 fun x hx => by have := h15 x hx; simp; omega⟩
        have HA := Lib.hid (And.intro hA (And.intro hB hb))
        clear hA hB hb h15
        go_wp2_with (first | (refine wpList_load_row rfl 152 _ rfl w.heap.size rfl 152 _ (0, 0) _ HA.out.1 HU.out.1 rfl (HU.out.2.1 _) ?_) | (refine wpList_store_row rfl 152 _ _ rfl w.heap.size _ rfl rfl 152 _ HA.out.1 (HU.out.2.1 _) rfl (HU.out.2.2 _) ?_))
        (try simp only [Exit.inBlock, Exit.then])
        rw [HA.out.2.2]
        refine bodyPost_ret (results_row_tmp rfl _ _ w.heap.size 152 (A16 _) (0, 0) _ rfl (setRow_heap _ _ _ _ _ _ HA.out.1) HU.out.1 rfl (HU.out.2.1 _)) rfl ?_
        exact ⟨_, rfl, fun _ => rfl, Fr.of_below (below_setRow HA.out.2.1 (Nat.le_refl _) _)⟩
end Go.Proofs.Ytciejmlhdmjajaa

