/- Package mods, and the document's: which sizes, which modifications may be; how long a log is. -/
import Derived.Test.YtoicdepkakgedaaWp
import Derived.Test.YtoicdepkakgedaaMa
import Derived.Test.YtoicdepkakgedaaSv
import Derived.Deep.RegionWith
namespace Go.Proofs.Ytoicdepkakgedaa
open Go.RowKit
set_option linter.unusedVariables false
set_option linter.unusedSimpArgs false

theorem i64_and_nat (x y : Nat) (hx : x < 2 ^ 63) (hy : y < 2 ^ 63) : bits .and .i64 (x : Int) (y : Int) = ((x &&& y : Nat) : Int) := by
  show IntKind.i64.wrap ((BitVec.ofInt 64 (x : Int) &&& BitVec.ofInt 64 (y : Int)).toNat : Int) = _
  rw [BitVec.toNat_and, ofInt_u64 _ (by omega), ofInt_u64 _ (by omega), IntKind.wrap_i64]
  have : x &&& y ≤ x := Nat.and_le_left
  omega
theorem page_any (n : Int) (w : World) : Calls Try.prog 18 #[.int .i64 n] w fun e w' => e = .returned (.bool (pageB n)) ∧ w = w' := by
  by_cases h1 : n < 1024
  · have e : pageB n = false := by unfold pageB; apply decide_eq_false; omega
    rw [e]
    go_enter Try.func18, Try.ntmps18
    go_wp2
    go_ret
    exact ⟨rfl, rfl⟩
  by_cases h2 : 16384 < n
  · have e : pageB n = false := by unfold pageB; apply decide_eq_false; omega
    have i1 : 1024 ≤ n := by omega
    rw [e]
    clear e h1
    go_enter Try.func18, Try.ntmps18
    go_wp2
    go_ret
    exact ⟨rfl, rfl⟩
  obtain ⟨k, rfl⟩ := Int.eq_ofNat_of_zero_le (show 0 ≤ n by omega)
  have i1 : 1024 ≤ (k : Int) := by omega
  have i2 : (k : Int) ≤ 16384 := by omega
  have hl := page_land k (by omega) (by omega)
  have ha : bits .and .i64 (k : Int) ((k : Int) - 1) = ((k &&& (k - 1) : Nat) : Int) := by
    rw [show ((k : Int) - 1) = ((k - 1 : Nat) : Int) by omega]; exact i64_and_nat _ _ (by omega) (by omega)
  have e : pageB (k : Int) = ((k &&& (k - 1)) == 0) := by rw [hl]; unfold pageB; apply decide_eq_decide.2; omega
  rw [e]
  generalize k &&& (k - 1) = z at *
  clear hl e h1 h2
  go_enter Try.func18, Try.ntmps18
  go_wp2
  go_ret
  exact ⟨by simp [Bool.beq_eq_decide_eq], rfl⟩

set_option maxHeartbeats 800000 in
theorem rpage_any (n : Int) (w : World) : Calls Try.prog 19 #[.int .i64 n] w fun e w' => e = .returned (.bool (pageB n)) ∧ w = w' := by
  go_enter Try.func19, Try.ntmps19
  go_wp2
  go_loop [3] (fun i => ∃ x : Int, i = .int .i64 x ∧ 1024 ≤ x ∧ x ≤ 32768 ∧ (x = 1024 ∨ x = 2048 ∨ x = 4096 ∨ x = 8192 ∨ x = 16384 ∨ x = 32768) ∧ (1024 < x → n ≠ 1024) ∧ (2048 < x → n ≠ 2048) ∧ (4096 < x → n ≠ 4096) ∧ (8192 < x → n ≠ 8192) ∧ (16384 < x → n ≠ 16384)) (fun i => 65536 - (intOf i).toNat)
  case atStart => exact ⟨1024, rfl, by omega, by omega, by omega, by omega, by omega, by omega, by omega, by omega⟩
  case round =>
    obtain ⟨x, rfl, h0, h1, hx, a1, a2, a3, a4, a5⟩ := hrel
    by_cases hl : x ≤ 16384
    · by_cases he : x = n
      · have e : pageB n = true := by unfold pageB; apply decide_eq_true; omega
        have HE := Lib.hid e
        clear a1 a2 a3 a4 a5 hx e
        subst he
        go_wp2
        go_ret
        exact ⟨by rw [HE.out]; rfl, rfl⟩
      · have hb : (x == n) = false := by rw [beq_eq_false_iff_ne]; exact he
        have H := Lib.hid (And.intro hx (And.intro a1 (And.intro a2 (And.intro a3 (And.intro a4 (And.intro a5 he))))))
        clear a1 a2 a3 a4 a5 hx he
        go_wp2
        obtain ⟨hx, a1, a2, a3, a4, a5, he⟩ := H.out
        go_round
        case rel => exact ⟨2 * x, rfl, by omega, by omega, by omega, by omega, by omega, by omega, by omega, by omega⟩
        case measure => simp [intOf]; omega
    · have e : pageB n = false := by unfold pageB; apply decide_eq_false; omega
      have HE := Lib.hid e
      clear a1 a2 a3 a4 a5 hx e
      go_wp2
      go_ret
      exact ⟨by rw [HE.out]; rfl, rfl⟩

theorem isEmpty_of (s : ByteArray) (h : 0 < s.size) : s.toList.isEmpty = false := by
  rw [ByteArray.toList_eq]
  cases hl : s.data.toList with
  | nil =>
    have : s.size = 0 := by have := congrArg List.length hl; simpa using this
    omega
  | cons _ _ => rfl
theorem empty_of (s : ByteArray) (h : s.size = 0) : s = ByteArray.empty := ByteArray.ext (Array.eq_empty_of_size_eq_zero h)

set_option maxHeartbeats 800000 in
theorem may_any (p : Int) (m : Md) (w : World) (ht : m.text.size ≤ 140737488355328) :
    Calls Try.prog 16 #[.int .i64 p, .agg #[.int .i64 m.at_, .string m.text]] w fun e w' => e = .returned (.bool (mayB p m)) ∧ Fr [] w w' := by
  obtain ⟨a, s⟩ := m
  simp only at ht ⊢
  cases hp : pageB p with
  | false =>
    have e : mayB p ⟨a, s⟩ = false := by unfold mayB; rw [hp]; rfl
    have HP := Lib.hid hp
    rw [e]
    clear hp e
    go_enter Try.func16, Try.ntmps16
    go_wp2_with fail
    refine (page_any p _).mono ?_
    rintro e w1 ⟨rfl, rfl⟩
    rw [HP.out]
    go_wp2_with fail
    go_ret
    exact ⟨rfl, Fr.alloc _ _ _⟩
  | true =>
    have hpb : 1024 ≤ p ∧ p ≤ 16384 := by unfold pageB at hp; have := of_decide_eq_true hp; omega
    obtain ⟨b1, b2⟩ := hpb
    have em : mayB p ⟨a, s⟩ = decide (0 ≤ a ∧ a < p ∧ 0 < s.size ∧ a + s.size ≤ p) := by unfold mayB; rw [hp]; rfl
    have HP := Lib.hid hp
    rw [em]
    have hs : (s.size : Int) ≤ 140737488355328 := by omega
    clear hp em
    by_cases h1 : a < 0
    · rw [decide_eq_false (by omega)]
      go_enter Try.func16, Try.ntmps16
      go_wp2_with fail
      refine (page_any p _).mono ?_
      rintro e w1 ⟨rfl, rfl⟩
      rw [HP.out]
      go_wp2_with fail
      go_ret
      exact ⟨rfl, Fr.alloc _ _ _⟩
    by_cases h2 : p ≤ a
    · rw [decide_eq_false (by omega)]
      have i1 : 0 ≤ a := by omega
      clear h1
      go_enter Try.func16, Try.ntmps16
      go_wp2_with fail
      refine (page_any p _).mono ?_
      rintro e w1 ⟨rfl, rfl⟩
      rw [HP.out]
      go_wp2_with fail
      go_ret
      exact ⟨rfl, Fr.alloc _ _ _⟩
    have i1 : 0 ≤ a := by omega
    have i2 : a < p := by omega
    by_cases h3 : s.size = 0
    · rw [decide_eq_false (by omega)]
      have h3' := empty_of s h3
      subst h3'
      clear h1 h2 h3
      go_enter Try.func16, Try.ntmps16
      go_wp2_with fail
      refine (page_any p _).mono ?_
      rintro e w1 ⟨rfl, rfl⟩
      rw [HP.out]
      go_wp2_with fail
      go_ret
      exact ⟨rfl, Fr.alloc _ _ _⟩
    have i3 := isEmpty_of s (by omega)
    have hd : decide (0 ≤ a ∧ a < p ∧ 0 < s.size ∧ a + s.size ≤ p) = decide ((s.size : Int) ≤ p - a) := by apply decide_eq_decide.2; omega
    rw [hd]
    clear h1 h2 h3 hd
    go_enter Try.func16, Try.ntmps16
    go_wp2_with fail
    refine (page_any p _).mono ?_
    rintro e w1 ⟨rfl, rfl⟩
    rw [HP.out]
    go_wp2_with fail
    go_ret
    exact ⟨rfl, Fr.alloc _ _ _⟩

set_option maxHeartbeats 800000 in
theorem rmay_any (p : Int) (m : Md) (w : World) (ht : m.text.size ≤ 140737488355328) :
    Calls Try.prog 17 #[.int .i64 p, .agg #[.int .i64 m.at_, .string m.text]] w fun e w' => e = .returned (.bool (mayB p m)) ∧ Fr [] w w' := by
  obtain ⟨a, s⟩ := m
  simp only at ht ⊢
  cases hp : pageB p with
  | false =>
    have e : mayB p ⟨a, s⟩ = false := by unfold mayB; rw [hp]; rfl
    have HP := Lib.hid hp
    rw [e]
    clear hp e
    go_enter Try.func17, Try.ntmps17
    go_wp2_with fail
    refine (rpage_any p _).mono ?_
    rintro e w1 ⟨rfl, rfl⟩
    rw [HP.out]
    go_wp2_with fail
    go_ret
    exact ⟨rfl, Fr.alloc _ _ _⟩
  | true =>
    have hpb : 1024 ≤ p ∧ p ≤ 16384 := by unfold pageB at hp; have := of_decide_eq_true hp; omega
    obtain ⟨b1, b2⟩ := hpb
    have em : mayB p ⟨a, s⟩ = decide (0 ≤ a ∧ a < p ∧ 0 < s.size ∧ a + s.size ≤ p) := by unfold mayB; rw [hp]; rfl
    have HP := Lib.hid hp
    rw [em]
    have hs : (s.size : Int) ≤ 140737488355328 := by omega
    clear hp em
    by_cases h1 : a < 0
    · rw [decide_eq_false (by omega)]
      go_enter Try.func17, Try.ntmps17
      go_wp2_with fail
      refine (rpage_any p _).mono ?_
      rintro e w1 ⟨rfl, rfl⟩
      rw [HP.out]
      go_wp2_with fail
      go_ret
      exact ⟨rfl, Fr.alloc _ _ _⟩
    by_cases h2 : p ≤ a
    · rw [decide_eq_false (by omega)]
      have i1 : 0 ≤ a := by omega
      clear h1
      go_enter Try.func17, Try.ntmps17
      go_wp2_with fail
      refine (rpage_any p _).mono ?_
      rintro e w1 ⟨rfl, rfl⟩
      rw [HP.out]
      go_wp2_with fail
      go_ret
      exact ⟨rfl, Fr.alloc _ _ _⟩
    have i1 : 0 ≤ a := by omega
    have i2 : a < p := by omega
    by_cases h3 : s.size = 0
    · rw [decide_eq_false (by omega)]
      have h3' := empty_of s h3
      subst h3'
      clear h1 h2 h3
      go_enter Try.func17, Try.ntmps17
      go_wp2_with fail
      refine (rpage_any p _).mono ?_
      rintro e w1 ⟨rfl, rfl⟩
      rw [HP.out]
      go_wp2_with fail
      go_ret
      exact ⟨rfl, Fr.alloc _ _ _⟩
    have i3 : 0 < s.size := by omega
    have hd : decide (0 ≤ a ∧ a < p ∧ 0 < s.size ∧ a + s.size ≤ p) = decide (a + (s.size : Int) ≤ p) := by apply decide_eq_decide.2; omega
    rw [hd]
    clear h1 h2 h3 hd
    go_enter Try.func17, Try.ntmps17
    go_wp2_with fail
    refine (rpage_any p _).mono ?_
    rintro e w1 ⟨rfl, rfl⟩
    rw [HP.out]
    go_wp2_with fail
    go_ret
    exact ⟨rfl, Fr.alloc _ _ _⟩

def Md.enc (m : Md) : List Value := [.int .i64 m.at_, .string m.text]

set_option maxHeartbeats 800000 in
theorem size_any (a1 : Option Addr) (c1 : Nat) (l : List Md) (w : World) (hs : SlOf Md.enc 2 w a1 l) (hl : l.length ≤ 1000000000) (hz : sizeN l ≤ 140737488355328) :
    Calls Try.prog 20 #[.slice a1 l.length c1] w fun e w' => e = .returned (.int .i64 (sizeN l)) ∧ Fr [] w w' := by
  have S1 := Lib.hid hs
  have i1 : (l.length : Int) ≤ 1000000000 := by omega
  have hz' := Lib.hid hz
  clear hs hl hz
  go_enter Try.func20, Try.ntmps20
  go_wp2
  go_loopw [2, 7] (fun n i wr => ∃ k : Nat, k ≤ l.length ∧ i = .int .i64 k ∧ n = .int .i64 (sizeN (l.take k)) ∧ Fr [] w wr) (fun _ i _ => l.length - (intOf i).toNat)
  case atStart => exact ⟨0, Nat.zero_le _, rfl, rfl, Fr.refl _ _⟩
  case round =>
    obtain ⟨k, hk, rfl, rfl, hF⟩ := hrel
    by_cases hlt : k < l.length
    · obtain ⟨m, hm⟩ : ∃ m, l[k]? = some m := ⟨l[k], List.getElem?_eq_getElem hlt⟩
      obtain ⟨b, o, rfl, hbl, hcell⟩ := (S1.out.below hF.below) (by intro h; rw [h] at hlt; simp at hlt)
      have k0 := hcell k m hm 0 (.int .i64 m.at_) rfl
      have k1 := hcell k m hm 1 (.string m.text) rfl
      simp only [Nat.add_zero] at k0 k1
      rw [← Nat.add_assoc] at k1
      have ht := sizeN_take l k m hm
      have hle := sizeN_le l (k + 1)
      have hzz := hz'.out
      have i2 : (sizeN (l.take k) : Int) + m.text.size ≤ 140737488355328 := by omega
      have i3 : (m.text.size : Int) ≤ 140737488355328 := by omega
      have HT := Lib.hid ht
      clear hcell hm ht hle hzz
      generalize sizeN (l.take k) = t at *
      go_wp2
      go_roundw
      case rel => exact ⟨k + 1, by omega, by go_num, by have := HT.out; congr 1; omega, hF.trans (Fr.alloc _ _ _)⟩
      case measure => simp [intOf]; omega
    · go_wp2
      go_ret
      have hke : k = l.length := by omega
      subst hke
      rw [List.take_of_length_le (Nat.le_refl _)]
      exact ⟨rfl, hF⟩

set_option maxHeartbeats 800000 in
theorem rsize_any (a1 : Option Addr) (c1 : Nat) (l : List Md) (w : World) (hs : SlOf Md.enc 2 w a1 l) (hl : l.length ≤ 1000000000) (hz : sizeN l ≤ 140737488355328) :
    Calls Try.prog 21 #[.slice a1 l.length c1] w fun e w' => e = .returned (.int .i64 (sizeN l)) ∧ w = w' := by
  have S1 := Lib.hid hs
  have i1 : (l.length : Int) ≤ 1000000000 := by omega
  have hz' := Lib.hid hz
  clear hs hl hz
  go_enter Try.func21, Try.ntmps21
  go_wp2
  go_loop [3, 4] (fun n i => ∃ k : Nat, k ≤ l.length ∧ i = .int .i64 k ∧ n = .int .i64 (sizeN (l.take k))) (fun _ i => l.length - (intOf i).toNat)
  case atStart => exact ⟨0, Nat.zero_le _, rfl, rfl⟩
  case round =>
    obtain ⟨k, hk, rfl, rfl⟩ := hrel
    by_cases hlt : k < l.length
    · obtain ⟨m, hm⟩ : ∃ m, l[k]? = some m := ⟨l[k], List.getElem?_eq_getElem hlt⟩
      obtain ⟨b, o, rfl, hbl, hcell⟩ := S1.out (by intro h; rw [h] at hlt; simp at hlt)
      have k1 := hcell k m hm 1 (.string m.text) rfl
      rw [← Nat.add_assoc] at k1
      have ht := sizeN_take l k m hm
      have hle := sizeN_le l (k + 1)
      have hzz := hz'.out
      have i2 : (sizeN (l.take k) : Int) + m.text.size ≤ 140737488355328 := by omega
      have i3 : (m.text.size : Int) ≤ 140737488355328 := by omega
      have HT := Lib.hid ht
      clear hcell hm ht hle hzz
      generalize sizeN (l.take k) = t at *
      go_wp2
      go_round
      case rel => exact ⟨k + 1, by omega, by go_num, by have := HT.out; congr 1; omega⟩
      case measure => simp [intOf]; omega
    · go_wp2
      go_ret
      have hke : k = l.length := by omega
      subst hke
      rw [List.take_of_length_le (Nat.le_refl _)]
      exact ⟨rfl, rfl⟩
end Go.Proofs.Ytoicdepkakgedaa
