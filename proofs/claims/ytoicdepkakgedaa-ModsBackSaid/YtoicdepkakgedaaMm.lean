/- What the statements of layer 18 call beside the program: a page of one byte, which lists are long, the small known case. -/
import Derived.Test.YtoicdepkakgedaaMl
namespace Go.Proofs.Ytoicdepkakgedaa
open Go.RowKit
set_option linter.unusedVariables false
set_option linter.unusedSimpArgs false

theorem slOf_cells {α : Type} {enc : α → List Value} {sz : Nat} {w : World} {b : Nat} {cs : Array Value} {t : TypeId} {fr : Nat × Nat} {l : List α} (hlen : ∀ x, (enc x).length = sz) (h : w.heap[b]? = some (.cells cs t fr)) (hc : cs.toList = l.flatMap enc) : SlOf enc sz w (some ⟨b, 0, none⟩) l := fun hx =>
  ⟨b, 0, rfl, lt_of h, fun i x hi j u hu => by
    have hj : j < sz := by rw [← hlen x]; exact (List.getElem?_eq_some_iff.1 hu).1
    rw [Nat.zero_add, cell_of h, ← Array.getElem?_toList, hc]
    exact flatMap_get hlen hi hj hu⟩
theorem SlOf.to {α : Type} {enc : α → List Value} {sz : Nat} {w w' : World} {a0 : Option Addr} {xs : List α} (h : SlOf enc sz w a0 xs) (f : Fr [] w w') : SlOf enc sz w' a0 xs := h.below f.below

/-! ### a page of one byte -/
def blankS (n : Nat) (c : UInt8) : ByteArray := ⟨(List.replicate n c).toArray⟩
theorem blankS_size (n : Nat) (c : UInt8) : (blankS n c).size = n := by simp [blankS, ByteArray.size]

set_option maxRecDepth 2000000 in
set_option maxHeartbeats 1600000 in
theorem blank_any (n : Nat) (c : UInt8) (w : World) (hn : n ≤ 1000000) : Calls Try.prog 30 #[.int .i64 (n : Int), .int .u8 (c.toNat : Int)] w fun e w' => e = .returned (.string (blankS n c)) ∧ Fr [] w w' := by
  have hni : (n : Int) ≤ 1000000 := by omega
  have hmk := run_make_bytes w n (by omega)
  have hb0 : Bb (w.alloc (.cells (Lib.byteCells (List.replicate n 0)).toArray 5)) w.heap.size 5 (List.replicate 0 c ++ List.replicate (n - 0) 0) := ⟨[], (0, 0), by rw [new_of]; simp, .inl rfl⟩
  have H0 := Lib.hid (And.intro hb0 ((Fr.alloc [] w (.cells (Lib.byteCells (List.replicate n 0)).toArray 5)).below))
  clear hb0
  go_enter Try.func30, Try.ntmps30
  go_wp2_with fail
  clear hmk
  go_loopw [6] (fun i wr => ∃ k : Nat, k ≤ n ∧ i = .int .i64 k ∧ Bb wr w.heap.size 5 (List.replicate k c ++ List.replicate (n - k) 0) ∧ Below w.heap.size w wr) (fun i _ => n - (intOf i).toNat)
  case atStart => exact ⟨0, Nat.zero_le _, rfl, H0.out.1, H0.out.2⟩
  case round =>
    obtain ⟨k, hk, rfl, hS, hB⟩ := hrel
    by_cases hlt : k < n
    · have hki : (k : Int) < (n : Int) := by omega
      have hc := hS.cell k (by simp; omega)
      have hf := hS.free k (by simp; omega)
      have hset := hS.set_ k (by simp; omega) c
      have e : (List.replicate k c ++ List.replicate (n - k) 0).set k c = List.replicate (k + 1) c ++ List.replicate (n - (k + 1)) 0 := by
        rw [List.set_append_right _ _ (by simp), List.length_replicate, Nat.sub_self, show n - k = (n - (k + 1)) + 1 by omega, List.replicate_succ, List.set_cons_zero, List.replicate_succ']
        simp
      rw [e] at hset
      have H := Lib.hid (And.intro hset hB)
      clear hS hB hset e
      go_wp2_with fail
      go_roundw
      case rel => exact ⟨k + 1, by omega, by go_num, H.out.1, (Fr.setCell _ _ _ _).out H.out.2 (by simp)⟩
      case measure => simp [intOf]; omega
    · have hke : k = n := by omega
      subst hke
      have hcv := hS.text (P := Try.prog) 60 9 Try.underlying60 Try.underlying5 Try.underlying9 k k (by simp)
      have e : (⟨(List.replicate k c ++ List.replicate (k - k) 0).toArray⟩ : ByteArray) = blankS k c := by simp [blankS]
      rw [e] at hcv
      have H := Lib.hid hB
      clear hS hB e
      go_wp2_with fail
      go_ret
      exact ⟨rfl, Fr.of_below H.out⟩

/-! ### long lists -/
def textN : List Md → Nat
  | [] => 0
  | m :: l => m.text.size + textN l
theorem textN_append (a b : List Md) : textN (a ++ b) = textN a + textN b := by
  induction a with
  | nil => simp [textN]
  | cons m a ih => simp [textN, ih, Nat.add_assoc]
theorem textN_take (l : List Md) (i : Nat) (m : Md) (h : l[i]? = some m) : textN (l.take (i + 1)) = textN (l.take i) + m.text.size := by
  obtain ⟨hi, he⟩ := List.getElem?_eq_some_iff.1 h
  rw [List.take_succ_eq_append_getElem hi, textN_append, he]
  simp [textN]
theorem textN_le (l : List Md) (i : Nat) : textN (l.take i) ≤ textN l := by
  have := textN_append (l.take i) (l.drop i)
  rw [List.take_append_drop] at this
  omega
theorem sizeN_text (l : List Md) : sizeN l = 4 * l.length + textN l := by
  induction l with
  | nil => rfl
  | cons m l ih => simp only [sizeN, textN, ih, List.length_cons]; omega
def longB (l : List Md) : Bool := decide (32768 < textN l) || decide (100 < l.length)
theorem longB_no {l : List Md} (h : longB l = false) : l.length ≤ 100 ∧ textN l ≤ 32768 ∧ sizeN l ≤ 33168 := by
  unfold longB at h
  simp only [Bool.or_eq_false_iff, decide_eq_false_iff_not] at h
  have := sizeN_text l
  omega

set_option maxRecDepth 2000000 in
set_option maxHeartbeats 1600000 in
theorem long_any (a1 : Option Addr) (c1 : Nat) (l : List Md) (w : World) (hs : SlOf Md.enc 2 w a1 l) (hl : l.length ≤ maxLen) (ht : ∀ m ∈ l, m.text.size ≤ 140737488351232) :
    Calls Try.prog 10 #[.slice a1 l.length c1] w fun e w' => e = .returned (.bool (longB l)) ∧ w = w' := by
  unfold maxLen at hl
  have S1 := Lib.hid hs
  have i1 : (l.length : Int) ≤ 9223372036854775807 := by omega
  have HT := Lib.hid ht
  clear hs hl ht
  go_enter Try.func10, Try.ntmps10
  go_wp2_with fail
  go_loop [3, 4] (fun n i => ∃ k : Nat, k ≤ l.length ∧ i = .int .i64 k ∧ n = .int .i64 (textN (l.take k)) ∧ textN (l.take k) ≤ 32768) (fun _ i => l.length - (intOf i).toNat)
  case atStart => exact ⟨0, Nat.zero_le _, rfl, rfl, by simp [textN]⟩
  case round =>
    obtain ⟨k, hk, rfl, rfl, ht⟩ := hrel
    by_cases hlt : k < l.length
    · obtain ⟨m, hm⟩ : ∃ m, l[k]? = some m := ⟨l[k], List.getElem?_eq_getElem hlt⟩
      obtain ⟨b, o, rfl, hbl, hcell⟩ := S1.out (by intro h; rw [h] at hlt; simp at hlt)
      have k1 := hcell k m hm 1 (.string m.text) rfl
      rw [← Nat.add_assoc] at k1
      have htk := textN_take l k m hm
      have hle := textN_le l (k + 1)
      have hms := HT.out m (List.mem_of_getElem? hm)
      have hmi : (m.text.size : Int) ≤ 140737488351232 := by omega
      have hti : (textN (l.take k) : Int) ≤ 32768 := by omega
      by_cases hbig : 32768 < textN (l.take k) + m.text.size
      · have hbi : (32768 : Int) < (textN (l.take k) : Int) + (m.text.size : Int) := by omega
        have hL := Lib.hid (show longB l = true by unfold longB; rw [decide_eq_true (by omega)]; rfl)
        clear hcell hm htk hle hms hbig ht
        generalize textN (l.take k) = t at *
        go_wp2_with fail
        go_ret
        rw [hL.out]
        exact ⟨rfl, rfl⟩
      · have hbi : (textN (l.take k) : Int) + (m.text.size : Int) ≤ 32768 := by omega
        have HT2 := Lib.hid (And.intro htk hbig)
        clear hcell hm htk hle hms hbig ht
        generalize textN (l.take k) = t at *
        go_wp2_with fail
        go_round
        case rel => exact ⟨k + 1, by omega, by go_num, by have := HT2.out.1; congr 1; omega, by have := HT2.out.1; have := HT2.out.2; omega⟩
        case measure => simp [intOf]; omega
    · have hke : k = l.length := by omega
      subst hke
      rw [List.take_of_length_le (Nat.le_refl _)] at ht
      have hL := Lib.hid (show longB l = decide (100 < l.length) by unfold longB; rw [decide_eq_false (by omega)]; rfl)
      clear ht
      go_wp2_with fail
      go_ret
      rw [hL.out]
      exact ⟨congrArg (fun b => Ending.returned (Value.bool b)) (show decide (100 < (l.length : Int)) = decide (100 < l.length) from decide_eq_decide.2 (by omega)), rfl⟩
end Go.Proofs.Ytoicdepkakgedaa
