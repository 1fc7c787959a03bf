/- How many codes there are of each length: canon's tally, a table of sixteen numbers. -/
import Derived.Test.YtciejmlhdmjajaaGreatKHc
import Derived.Test.YtciejmlhdmjajaaGreatKSl
import Derived.Laws.Rows
import Derived.Laws.Tables
import Derived.Laws.ResultCell
namespace Go.Proofs.YtciejmlhdmjajaaGreat
open Go.RowKit
set_option linter.unusedVariables false
set_option linter.unusedSimpArgs false

/-- A byte's cells. -/
def U8 (n : Nat) : List Value := [.int .u8 (n : Int)]
theorem u8_len (n : Nat) : (U8 n).length = 1 := rfl
/-- Sixteen numbers. -/
def A16 (F : Nat → Nat) : Array Value := ((List.range 16).map fun j => Value.int .i64 (F j : Int)).toArray
def Arow (w : World) (g : Nat) (F : Nat → Nat) : Prop := w.heap[g]? = some (.cells (A16 F) 150 (0, 0))
theorem Arow.cell {w : World} {g : Nat} {F : Nat → Nat} (h : Arow w g F) (k : Nat) (hk : k < 16) : w.cell? ⟨g, k, none⟩ = some (.int .i64 (F k : Int)) := by
  rw [cell_of h]; simp [A16, hk]
theorem Arow.set_ {w : World} {g : Nat} {F G : Nat → Nat} (h : Arow w g F) (k : Nat) (hk : k < 16) (hG : ∀ j, j < 16 → G j = F j + (if k = j then 1 else 0)) : Arow (w.setCell ⟨g, k, none⟩ (.int .i64 ((F k + 1 : Nat) : Int))) g G := by
  unfold Arow
  rw [set_of h k]
  congr 2
  unfold A16
  apply Array.ext'
  simp only [List.setIfInBounds_toArray]
  apply List.ext_getElem
  · simp
  · intro j h1 h2
    have hj : j < 16 := by simpa using h2
    rw [List.getElem_set]
    simp only [List.getElem_map, List.getElem_range]
    rw [hG j hj]
    by_cases hjk : k = j
    · subst hjk; simp
    · rw [if_neg hjk, if_neg hjk]; simp
theorem Arow.to {w w' : World} {g : Nat} {F : Nat → Nat} {l : List Nat} (h : Arow w g F) (k : Fr l w w') (hb : g ∉ l) : Arow w' g F := k.blk h hb

theorem results_row_tmp {P : Program} {fn : Func} {p u : Tmp} {ty : TypeId} (h : fn.results = #[.cell p ty, .tmp u]) (tmps : Array Value) (w : World) (g : Nat) (t : TypeId) (cs : Array Value) (fr : Nat × Nat) (d : TypeDesc)
    (hp : tmps.getD p undef = .pointer (some ⟨g, 0, none⟩)) (hg : w.heap[g]? = some (.cells cs t fr))
    (hu : P.underlying ty = some d) (hd : (match d with | .struct _ | .array _ _ => true | _ => false) = true) (hi : (P.info? ty).map (·.size) = some cs.size) :
    (results fn tmps).run P w = .ok (.tuple #[.agg cs, tmps.getD u undef]) w := by
  rw [results_cell_tmp h, hp]
  simp [asAddr, run_loadVar_row w g t ty cs fr d hg hu hd hi, Result.andThen]

set_option maxRecDepth 2000000 in
set_option maxHeartbeats 1600000 in
theorem tally_any (a : Option Addr) (c : Nat) (l : List Nat) (w : World) (hs : SlOf U8 1 w a l) (hl : l.length ≤ 9223372036854775807) (h8 : ∀ x ∈ l, x < 256) :
    Calls Tryz.prog 94 #[.slice a l.length c] w fun e w' => ∃ F, e = .returned (.tuple #[.agg (A16 F), .bool (!badL l)]) ∧ (badL l = false → F = cnt l) ∧ Fr [] w w' := by
  have HS := Lib.hid hs
  have H8 := Lib.hid h8
  have hl1 : (l.length : Int) ≤ 9223372036854775807 := by omega
  clear hs h8 hl
  have hu16 : Tryz.prog.underlying 150 = some (.array 16 3) := by kernel_rfl
  have hi16 : ∀ F, (Tryz.prog.info? 150).map (·.size) = some (A16 F).size := fun F => by unfold A16; rw [List.size_toArray, List.length_map, List.length_range]; kernel_rfl
  have hone : ∀ F, (A16 F).all (·.oneCell') = true := fun F => by unfold A16; simp [Value.oneCell']
  have HU := Lib.hid (And.intro hu16 (And.intro hi16 hone))
  clear hu16 hi16 hone
  by_cases hbig : 320 < l.length
  · have hb : badL l = true := by unfold badL; rw [decide_eq_true hbig]; rfl
    have h1 : (320 : Int) < (l.length : Int) := by omega
    rw [hb]
    clear hb hbig
    go_enter Tryz.func94, Tryz.ntmps94
    go_wp2_with fail
    (try simp only [Exit.inBlock, Exit.then])
    refine bodyPost_ret (results_row_tmp rfl _ _ w.heap.size 150 (A16 fun _ => 0) (0, 0) _ rfl (new_of w _) HU.out.1 rfl (HU.out.2.1 _)) rfl ?_
    exact ⟨fun _ => 0, rfl, (fun h => by simp at h), Fr.alloc _ _ _⟩
  · have h1 : (l.length : Int) ≤ 320 := by omega
    go_enter Tryz.func94, Tryz.ntmps94
    go_wp2_with fail
    have F0 : Hid (Arow (w.alloc (Obj.cells #[Value.int IntKind.i64 0, Value.int IntKind.i64 0, Value.int IntKind.i64 0, Value.int IntKind.i64 0, Value.int IntKind.i64 0, Value.int IntKind.i64 0, Value.int IntKind.i64 0, Value.int IntKind.i64 0, Value.int IntKind.i64 0, Value.int IntKind.i64 0, Value.int IntKind.i64 0, Value.int IntKind.i64 0, Value.int IntKind.i64 0, Value.int IntKind.i64 0, Value.int IntKind.i64 0, Value.int IntKind.i64 0] 150)) w.heap.size (cnt (l.take 0))) := Lib.hid (new_of w _)
    have F1 := Lib.hid ((Fr.alloc [] w (Obj.cells #[Value.int IntKind.i64 0, Value.int IntKind.i64 0, Value.int IntKind.i64 0, Value.int IntKind.i64 0, Value.int IntKind.i64 0, Value.int IntKind.i64 0, Value.int IntKind.i64 0, Value.int IntKind.i64 0, Value.int IntKind.i64 0, Value.int IntKind.i64 0, Value.int IntKind.i64 0, Value.int IntKind.i64 0, Value.int IntKind.i64 0, Value.int IntKind.i64 0, Value.int IntKind.i64 0, Value.int IntKind.i64 0] 150)).below)
    go_loopw [5, 12] (fun n i wr => ∃ j : Nat, j ≤ l.length ∧ i = .int .i64 j ∧ n = n ∧ (∀ x ∈ l.take j, x ≤ 15) ∧ Arow wr w.heap.size (cnt (l.take j)) ∧ Below w.heap.size w wr) (fun _ i _ => l.length - (intOf i).toNat)
    case atStart => exact ⟨0, Nat.zero_le _, rfl, rfl, fun x hx => by simp at hx, F0.out, F1.out⟩
    case round =>
      obtain ⟨j, hj, rfl, _, h15, hA, hB⟩ := hrel
      by_cases hjl : j < l.length
      · obtain ⟨x, hx⟩ : ∃ x, l[j]? = some x := ⟨l[j], List.getElem?_eq_getElem hjl⟩
        obtain ⟨b, o, rfl, hbl, hcell⟩ := (HS.out.below hB) (by intro h; rw [h] at hx; simp at hx)
        have c0 := hcell j x hx 0 (.int .u8 (x : Int)) rfl
        rw [Nat.mul_one, Nat.add_zero] at c0
        have hx8 := H8.out x (List.mem_of_getElem? hx)
        have hji : (j : Int) < (l.length : Int) := by omega
        have hj0 : 0 ≤ (j : Int) := by omega
        by_cases hx15 : x ≤ 15
        · have hxi : (x : Int) ≤ 15 := by omega
          have hx0 : 0 ≤ (x : Int) := by omega
          have k0 := hA.cell x (by omega)
          have kz := free_of hA x
          have hset := hA.set_ (G := cnt (l.take (j + 1))) x (by omega) (fun q hq => cnt_take l j q x hx)
          have hle := cnt_le (l.take j) x
          rw [List.length_take] at hle
          obtain ⟨q, hq⟩ : ∃ q, cnt (l.take j) x = q := ⟨_, rfl⟩
          rw [hq] at k0 hset hle
          have hqi : (q : Int) ≤ 320 := by omega
          have hqw : ((q : Int) + 1) = ((q + 1 : Nat) : Int) := by omega
          have HG := Lib.hid (And.intro hset (And.intro hB (And.intro hqw (fun y (hy : y ∈ l.take (j + 1)) => by
            rw [List.take_add_one, hx] at hy
            rcases List.mem_append.1 hy with hy | hy
            · exact h15 y hy
            · simp at hy; omega : ∀ y ∈ l.take (j + 1), y ≤ 15))))
          clear hcell hset hle hq hqw hA hB h15 hx8 hbl hx hx15
          go_wp2_with fail
          go_roundw
          case rel => exact ⟨j + 1, by omega, by go_num, trivial, HG.out.2.2.2, by rw [HG.out.2.2.1]; exact HG.out.1, (Fr.setCell _ _ _ _).out HG.out.2.1 (by simp)⟩
          case measure => simp [intOf]; omega
        · have hxi : (15 : Int) < (x : Int) := by omega
          have hb : badL l = true := by
            unfold badL
            rw [Bool.or_eq_true]
            right
            exact List.any_eq_true.2 ⟨x, List.mem_of_getElem? hx, decide_eq_true (by omega)⟩
          have HA := Lib.hid (And.intro hA (And.intro hB hb))
          have hxi' : (x : Int) ≤ 255 := by omega
          clear hcell hA hB h15 hx8 hbl hx hx15 hb
          go_wp2_with (first | (refine wpList_load_row rfl 150 _ rfl w.heap.size rfl 150 _ (0, 0) _ HA.out.1 HU.out.1 rfl (HU.out.2.1 _) ?_) | (refine wpList_store_row rfl 150 _ _ rfl w.heap.size _ rfl rfl 150 _ HA.out.1 (HU.out.2.1 _) rfl (HU.out.2.2 _) ?_))
          (try simp only [Exit.inBlock, Exit.then])
          rw [HA.out.2.2]
          refine bodyPost_ret (results_row_tmp rfl _ _ w.heap.size 150 (A16 _) (0, 0) _ rfl (setRow_heap _ _ _ _ _ _ HA.out.1) HU.out.1 rfl (HU.out.2.1 _)) rfl ?_
          exact ⟨_, rfl, (fun h => by simp at h), Fr.of_below (below_setRow HA.out.2.1 (Nat.le_refl _) _)⟩
      · have hje : j = l.length := by omega
        subst hje
        rw [List.take_length] at hA h15
        have hb : badL l = false := by
          unfold badL
          rw [Bool.or_eq_false_iff, decide_eq_false_iff_not]
          exact ⟨hbig, List.any_eq_false.2 fun x hx => by have := h15 x hx; simp; omega⟩
        have HA := Lib.hid (And.intro hA (And.intro hB hb))
        clear hA hB hb h15
        go_wp2_with (first | (refine wpList_load_row rfl 150 _ rfl w.heap.size rfl 150 _ (0, 0) _ HA.out.1 HU.out.1 rfl (HU.out.2.1 _) ?_) | (refine wpList_store_row rfl 150 _ _ rfl w.heap.size _ rfl rfl 150 _ HA.out.1 (HU.out.2.1 _) rfl (HU.out.2.2 _) ?_))
        (try simp only [Exit.inBlock, Exit.then])
        rw [HA.out.2.2]
        refine bodyPost_ret (results_row_tmp rfl _ _ w.heap.size 150 (A16 _) (0, 0) _ rfl (setRow_heap _ _ _ _ _ _ HA.out.1) HU.out.1 rfl (HU.out.2.1 _)) rfl ?_
        exact ⟨_, rfl, fun _ => rfl, Fr.of_below (below_setRow HA.out.2.1 (Nat.le_refl _) _)⟩
end Go.Proofs.YtciejmlhdmjajaaGreat

