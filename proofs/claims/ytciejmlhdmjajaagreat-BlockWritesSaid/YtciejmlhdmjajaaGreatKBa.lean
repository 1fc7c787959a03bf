/- Words for what calls do to memory: 'Fr l w w'': nothing that was there has turned but the blocks of the list l; what one block holds; a text copied into a row. -/
import Derived.Test.YtciejmlhdmjajaaGreatProg
import Derived.WalkKit
import Derived.WalkSpells
import Derived.WalkLawsBesides
import Derived.RegionTactic
import Derived.ChangeAlike
import Derived.Deep.QuietTactic
import Derived.BigQuiet
import Derived.StillTailTactics
import Derived.Laws.CopyOwn
import Derived.Lib.BufferWrite
import Derived.Lib.Hide
import Derived.Lib.SlBuf
import Derived.LoopN
import Derived.ChangeSame
import Derived.ProofKit
namespace Go.Proofs.YtciejmlhdmjajaaGreat
open Go.RowKit
set_option linter.unusedVariables false
set_option linter.unusedSimpArgs false

/-- Nothing that was there has turned but the blocks of l. -/
structure Fr (l : List Nat) (w w' : World) : Prop where
  os : w'.os = w.os
  tape : w'.tape = w.tape
  output : w'.output = w.output
  size : w.heap.size ≤ w'.heap.size
  block : ∀ k, k < w.heap.size → k ∉ l → w'.heap[k]? = w.heap[k]?

theorem Fr.refl (l : List Nat) (w : World) : Fr l w w := ⟨rfl, rfl, rfl, Nat.le_refl _, fun _ _ _ => rfl⟩
theorem Fr.trans {l : List Nat} {a b c : World} (h : Fr l a b) (k : Fr l b c) : Fr l a c :=
  ⟨k.os.trans h.os, k.tape.trans h.tape, k.output.trans h.output, Nat.le_trans h.size k.size, fun i hi hl => (k.block i (Nat.lt_of_lt_of_le hi h.size) hl).trans (h.block i hi hl)⟩
theorem Fr.mono {l m : List Nat} {a b : World} (h : Fr l a b) (hs : ∀ i, i ∈ l → i ∈ m) : Fr m a b := ⟨h.os, h.tape, h.output, h.size, fun i hi hm => h.block i hi fun hl => hm (hs i hl)⟩
theorem Fr.nil {l : List Nat} {a b : World} (h : Fr [] a b) : Fr l a b := h.mono (by simp)
/-- What a block is, it stays. -/
theorem Fr.blk {l : List Nat} {a b : World} {k : Nat} {o : Obj} (h : Fr l a b) (hk : a.heap[k]? = some o) (hl : k ∉ l) : b.heap[k]? = some o := by
  rw [h.block k (Array.getElem?_eq_some_iff.1 hk).1 hl, hk]
theorem Fr.of_below {l : List Nat} {a b : World} (h : Below a.heap.size a b) : Fr l a b := ⟨h.os, h.tape, h.output, h.size, fun i hi _ => h.block i hi⟩
theorem Fr.below {a b : World} (h : Fr [] a b) : Below a.heap.size a b := ⟨h.os, h.tape, h.output, h.size, fun i hi => h.block i hi (by simp)⟩
/-- Seen from an elder world, in which none of the blocks was there. -/
theorem Fr.out {l : List Nat} {w a b : World} (h : Fr l a b) (hw : Below w.heap.size w a) (hl : ∀ i, i ∈ l → w.heap.size ≤ i) : Below w.heap.size w b :=
  hw.trans ⟨h.os, h.tape, h.output, h.size, fun i hi => h.block i (Nat.lt_of_lt_of_le hi hw.size) fun hm => by have := hl i hm; omega⟩
theorem Fr.outL {l m : List Nat} {w a b : World} (h : Fr l a b) (hw : Fr m w a) (hl : ∀ i, i ∈ l → i ∈ m ∨ w.heap.size ≤ i) : Fr m w b :=
  ⟨h.os.trans hw.os, h.tape.trans hw.tape, h.output.trans hw.output, Nat.le_trans hw.size h.size, fun i hi him => (h.block i (Nat.lt_of_lt_of_le hi hw.size) fun hm => by rcases hl i hm with h1 | h1; exact him h1; omega).trans (hw.block i hi him)⟩
theorem Fr.drewN (l : List Nat) (w : World) (n : Nat) : Fr l w (w.drewN n) := ⟨rfl, rfl, rfl, Nat.le_refl _, fun _ _ _ => rfl⟩
theorem Fr.drew {l : List Nat} {a w : World} (h : Fr l a w) : Fr l a w.drew := ⟨h.os, h.tape, h.output, h.size, h.block⟩
theorem Fr.alloc (l : List Nat) (w : World) (o : Obj) : Fr l w (w.alloc o) := Fr.of_below ((Below.refl _ _).alloc (Nat.le_refl _) o)
theorem Fr.setCell (w : World) (b i : Nat) (v : Value) : Fr [b] w (w.setCell ⟨b, i, none⟩ v) :=
  ⟨rfl, rfl, rfl, by simp [World.setCell], fun k _ hb => Below.heap_setCell _ _ _ _ (by simpa using hb)⟩

theorem cell_of {w : World} {b : Nat} {cs : Array Value} {t : TypeId} {fr : Nat × Nat} (h : w.heap[b]? = some (.cells cs t fr)) (i : Nat) : w.cell? ⟨b, i, none⟩ = cs[i]? := by simp [World.cell?, h]
theorem free_of {w : World} {b : Nat} {cs : Array Value} {t : TypeId} (h : w.heap[b]? = some (.cells cs t (0, 0))) (i : Nat) : w.frozen? ⟨b, i, none⟩ = false := by simp [World.frozen?, h]
theorem set_of {w : World} {b : Nat} {cs : Array Value} {t : TypeId} (h : w.heap[b]? = some (.cells cs t (0, 0))) (i : Nat) (v : Value) : (w.setCell ⟨b, i, none⟩ v).heap[b]? = some (.cells (cs.setIfInBounds i v) t (0, 0)) := by
  simp [World.setCell, Array.getElem?_modify, h]
theorem new_of (w : World) (o : Obj) : (w.alloc o).heap[w.heap.size]? = some o := heap_alloc_new w o
theorem lt_of {w : World} {b : Nat} {o : Obj} (h : w.heap[b]? = some o) : b < w.heap.size := (Array.getElem?_eq_some_iff.1 h).1

/-- 'copy(row[:], s)': as many of the text's bytes as there is room for. -/
theorem run_copy_text {P : Program} (w : World) (dT sT ty elem : TypeId) (g dLen dCap : Nat) (s : ByteArray) (cur : Array Value) (t : TypeId)
    (hu : P.underlying dT = some (.slice elem)) (hs : (P.info? elem).map (·.size) = some 1) (hg : w.heap[g]? = some (.cells cur t (0, 0))) (hfit : dLen ≤ cur.size) :
    (Builtin.copy_ #[dT, sT] ty #[.slice (some ⟨g, 0, none⟩) dLen dCap, .string s]).run P w =
      .ok (goInt (min s.size dLen)) (w.setRow g ((Lib.byteCells s.data.toList).take (min s.size dLen) ++ cur.toList.drop (min s.size dLen)).toArray) := by
  have hlen : ((Lib.byteCells s.data.toList).take (min s.size dLen)).length = min s.size dLen := by rw [List.length_take, Lib.byteCells_length, ← Lib.size_eq]; omega
  have hst := run_storeCells_at P g 0 t ((Lib.byteCells s.data.toList).take (min s.size dLen)) 0 cur w hg (by rw [hlen]; omega) (fun v hv => Lib.byteCells_one _ v (List.mem_of_mem_take hv))
  rw [hlen] at hst
  simp only [Nat.add_zero, Nat.zero_add, List.take_zero, List.nil_append] at hst
  have htk : List.take (min s.size dLen) (List.map (fun b : UInt8 => Value.int IntKind.u8 (b.toNat : Int)) s.data.toList) = (Lib.byteCells s.data.toList).take (min s.size dLen) := rfl
  cases hq : P.info? elem with
  | none => simp [hq] at hs
  | some i =>
    have hm : Nat.min s.size dLen = min s.size dLen := rfl
    simp [Builtin.copy_, run_underlying hu, Builtin.lenOf, Builtin.firstCells, sizeOf, typeInfo, hq, hm]
    rw [htk, hst]
    simp [Result.andThen]
    congr 1
    omega

open Go.WideShapes Go.ChangeShapes in
theorem post_of_below {H : Type} {enc : TypeId × Value → H} {P : Program} {f : Func} {s : ChangeSpec} {apart fresh handsOn again : Bool} {W W' : World} {args : Array Value} {v : Value} {ds gs : List (DataW H)} {before pa pv : List MemPlace}
    (hW : DataW.Whole enc P f.params.toList s.vars apart W args.toList ds gs before)
    (hres : ∀ (b : Nat) (sp : Nat → Bool) (hd : Bool), DataW.TrodAll enc P W' b sp hd f.resultTypes.toList (v.resultList f.resultTypes.size) (s.fn H (ds ++ gs)).results [])
    (hargs : ∀ sp : Nat → Bool, (∀ p ∈ before, sp p.block = true) → DataW.TrodAll enc P W' 0 sp true f.params.toList args.toList (s.fn H (ds ++ gs)).args pa)
    (hvars : ∀ sp : Nat → Bool, (∀ p ∈ before, sp p.block = true) → DataW.TrodVars enc P W' sp s.vars (s.fn H (ds ++ gs)).vars pv)
    (hps : before = pa ++ pv) (hb : Below W.heap.size W W')
    (hok : ∀ (j : Nat) (t : TypeId) (r : Value), f.resultTypes[j]? = some t → (v.resultList f.resultTypes.size)[j]? = some r → Value.okWide P W' .any 0 t r) :
    s.post enc P f apart fresh handsOn again W args v W' := by
  have hlt : ∀ p ∈ before, p.block < W.heap.size := fun p hp => hW.lt p hp
  have hold : ∀ p ∈ before, (fun b => decide (b < W.heap.size)) p.block = true := fun p hp => by simpa using hlt p hp
  refine ⟨ds, gs, before, [], pa, pv, hW, hres _ _ _, hargs _ hold, hvars _ hold, World.keptBut_mono (fun p hp => ⟨hp, ?_⟩) (hb.frame (· ∈ before)), fun _ => ?_⟩
  · rw [hps, List.mem_append] at hp
    exact Or.inr hp
  · obtain ⟨_, _, _, _, _, hz, hn⟩ := hW
    refine ⟨hok, _, _, ([] ++ pa) ++ pv, ⟨[] ++ pa, pv, trodAll_append (hargs _ (fun _ _ => rfl)) (hres _ _ _), hvars _ (fun _ _ => rfl), rfl, ?_, ?_⟩, ?_⟩
    · intro b off hp
      have hin : MemPlace.cell b off ∈ before := by rw [hps]; simpa using hp
      rw [hb.frozen (hlt _ hin)]
      exact hz b off hin
    · intro ha
      have := hn ha
      rw [hps] at this
      simpa using this
    · intro p hp _
      rw [hps]
      simpa using hp

/-- An array of bytes, held by value, read at an index. -/
theorem run_index_bytes {P : Program} (w : World) (t e : TypeId) (n : Nat) (bs : List UInt8) (kd : IntKind) (k : Nat) (h : P.underlying t = some (.array n e)) (he : P.underlying e = some (.int .u8)) (hs : (P.info? e).map (·.size) = some 1) (hl : bs.length = n) (hk : k < n) :
    (Instr.index t (.agg (Lib.byteCells bs).toArray) (.int kd (k : Int))).run P w = .ok (.int .u8 ((bs.getD k 0).toNat : Int)) w := by
  have hb : (0 ≤ (k : Int) ∧ (k : Int) < (n : Int)) := by omega
  have hg : (Lib.byteCells bs)[k]? = some (.int .u8 ((bs.getD k 0).toNat : Int)) := by
    simp [Lib.byteCells, List.getD, List.getElem?_eq_getElem (show k < bs.length by omega)]
  cases hq : P.info? e with
  | none => simp [hq] at hs
  | some i =>
    have hs1 : i.size = 1 := by simpa [hq] using hs
    simp [Instr.index, run_underlying h, asIntOf, hb, sizeOf, typeInfo, hq, hs1, part, isAgg, run_underlying he, hg, hk, go_sem]

/-- A text read at an index. -/
theorem run_index_text {P : Program} (w : World) (t : TypeId) (s : ByteArray) (kd : IntKind) (k : Nat) (h : P.underlying t = some .string) (hk : k < s.size) :
    (Instr.index t (.string s) (.int kd (k : Int))).run P w = .ok (.int .u8 ((s[k]'hk).toNat : Int)) w := by
  have hs : s[k]? = some (s[k]'hk) := getElem?_pos s k hk
  simp [Instr.index, run_underlying h, asIntOf, hs, go_sem]
end Go.Proofs.YtciejmlhdmjajaaGreat

