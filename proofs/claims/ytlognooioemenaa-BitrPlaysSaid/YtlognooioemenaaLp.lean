/- The statement BitrPlays: the walk of its Go function. -/
import Derived.Test.YtlognooioemenaaBx
import Derived.Test.YtlognooioemenaaSl
import Derived.Deep.RegionHeld3
import Derived.Deep.RegionWith
namespace Go.Proofs.Ytlognooioemenaa
open Go.RowKit
set_option linter.unusedVariables false
set_option linter.unusedSimpArgs false

/-- Both readers stand at one place, within their text. -/
def Both (A B : Nat) (s : ByteArray) (w w' : World) : Prop := ∃ a', a' ≤ 8 * s.size ∧ Rd w' A s a' ∧ Rx w' B s a' ∧ Fr [A, B] w w'

theorem skip_le (s : ByteArray) (a : Nat) (n : Int) (ha : a ≤ 8 * s.size) : (if skipE s a n = 0 then a + n.toNat else a) ≤ 8 * s.size := by
  split
  · rename_i h; unfold skipE at h; split at h
    · omega
    · split at h <;> omega
  · exact ha
theorem bits_le (s : ByteArray) (a : Nat) (n : Int) (ha : a ≤ 8 * s.size) : (if bitsE s a n = 0 then a + n.toNat else a) ≤ 8 * s.size := by
  split
  · rename_i h; unfold bitsE at h; split at h
    · omega
    · split at h <;> omega
  · exact ha
theorem bytes_le (s : ByteArray) (a : Nat) (n : Int) (ha : a ≤ 8 * s.size) : (if bytesE s a n = 0 then alignA a + 8 * n.toNat else a) ≤ 8 * s.size := by
  split
  · rename_i h; unfold bytesE at h; unfold alignA; split at h
    · omega
    · split at h <;> omega
  · exact ha
theorem align_le (s : ByteArray) (a : Nat) (ha : a ≤ 8 * s.size) : alignA a ≤ 8 * s.size := by unfold alignA; omega

theorem Fr.two {A B : Nat} {w w1 w2 : World} (h : Fr [A] w w1) (k : Fr [B] w1 w2) : Fr [A, B] w w2 := (h.mono (by simp)).trans (k.mono (by simp))
theorem Fr.one {l : List Nat} {w w1 w2 : World} (h : Fr [] w w1) (k : Fr l w1 w2) : Fr l w w2 := h.nil.trans k

set_option maxHeartbeats 1600000 in
theorem does_any (A B : Nat) (s : ByteArray) (a : Nat) (c : Call03) (hok : c.ok) (w : World) (hr : Rd w A s a) (hx : Rx w B s a) (hne : A ≠ B) (hs : s.size ≤ 1000000000) (ha : a ≤ 8 * s.size) :
    Calls Try.prog 38 #[.pointer (some ⟨A, 0, none⟩), .pointer (some ⟨B, 0, none⟩), .agg #[.int .u8 c.act, .int .i64 c.n]] w fun e w' => e = .returned (.bool true) ∧ Both A B s w w' := by
  obtain ⟨⟨o0, o1⟩, _, _⟩ := hok
  have hm8 : c.act % 8 = 0 ∨ c.act % 8 = 1 ∨ c.act % 8 = 2 ∨ c.act % 8 = 3 ∨ c.act % 8 = 4 ∨ c.act % 8 = 5 ∨ c.act % 8 = 6 ∨ c.act % 8 = 7 := by omega
  have fb : Fr [] w (w.alloc (.cells #[.int .u8 c.act, .int .i64 c.n] 65)) := Fr.alloc _ _ _
  have hA : A < w.heap.size := lt_of hr
  have hB : B < w.heap.size := lt_of hx
  have HC := Lib.hid (new_of w (.cells #[.int .u8 c.act, .int .i64 c.n] 65))
  have HR := Lib.hid (hr.to fb (by simp))
  have HX := Lib.hid (hx.to fb (by simp))
  have HF := Lib.hid fb
  clear hr hx fb
  rcases hm8 with hm | hm | hm | hm | hm | hm | hm | hm
  case inr.inr.inr.inl =>
    go_enter Try.func38, Try.ntmps38
    go_wp2_with fail
    refine (peek_all A s a c.n _ HR.out hs ha).mono ?_
    rintro e w1 ⟨rfl, f1⟩
    have k1 : w1.cell? ⟨w.heap.size, 1, none⟩ = some (.int .i64 c.n) := cell_of (f1.blk HC.out (by simp)) 1
    go_wp2_with fail
    refine (xpeek_all B s a c.n _ (HX.out.to f1 (by simp)) hs ha).mono ?_
    rintro e w2 ⟨rfl, f2⟩
    go_wp2_with fail
    go_ret
    exact ⟨rfl, a, ha, HR.out.to (f1.trans f2) (by simp), HX.out.to (f1.trans f2) (by simp), (HF.out.trans (f1.trans f2)).nil⟩
  case inr.inr.inr.inr.inl =>
    have hle := skip_le s a c.n ha
    go_enter Try.func38, Try.ntmps38
    go_wp2_with fail
    go_region_held3 (fun W => W.cell? ⟨w.heap.size, 1, none⟩ = some (.int .i64 c.n)) (first | go_keep) (first | (go_at_call 21; refine (skip_any A s a c.n _ (by exact HR.out) hs ha).mono ?_; rintro e w1 ⟨rfl, h1, f1⟩; replace f1 := (Fr.drew (Fr.refl [A] (w.alloc (.cells #[.int .u8 c.act, .int .i64 c.n] 65)))).trans f1; have k1 : w1.cell? ⟨w.heap.size, 1, none⟩ = some (.int .i64 c.n) := cell_of (f1.blk (k := w.heap.size) HC.out (by simp; omega)) 1) | (go_at_call 63; refine (xskip_any B s a c.n _ (HX.out.to f1 (by simpa using hne.symm)) hs ha).mono ?_; rintro e w2 ⟨rfl, h2, f2⟩; have k1 : w2.cell? ⟨w.heap.size, 1, none⟩ = some (.int .i64 c.n) := cell_of (f2.blk (f1.blk HC.out (by simp; omega)) (by simp; omega)) 1))
    go_wp2_with fail
    go_ret
    exact ⟨rfl, _, hle, h1.to f2 (by simpa using hne), h2, (HF.out.nil.trans (f1.two f2))⟩
  case inr.inr.inr.inr.inr.inl =>
    have hle := align_le s a ha
    go_enter Try.func38, Try.ntmps38
    go_wp2_with fail
    refine (align_any A s a _ HR.out hs ha).mono ?_
    rintro e w1 ⟨rfl, h1, f1⟩
    go_wp2_with fail
    refine (xalign_any B s a _ (HX.out.to f1 (by simpa using hne.symm)) hs ha).mono ?_
    rintro e w2 ⟨rfl, h2, f2⟩
    go_wp2_with fail
    go_ret
    exact ⟨rfl, _, hle, h1.to f2 (by simpa using hne), h2, (HF.out.nil.trans (f1.two f2))⟩
  case inr.inr.inr.inr.inr.inr.inl | inr.inr.inr.inr.inr.inr.inr =>
    have hle := bytes_le s a c.n ha
    go_enter Try.func38, Try.ntmps38
    go_wp2_with fail
    refine (bytes_any A s a c.n _ HR.out hs ha).mono ?_
    rintro e w1 ⟨rfl, h1, f1⟩
    have k1 : w1.cell? ⟨w.heap.size, 1, none⟩ = some (.int .i64 c.n) := cell_of (f1.blk HC.out (by simp; omega)) 1
    go_wp2_with fail
    refine (xbytes_any B s a c.n _ (HX.out.to f1 (by simpa using hne.symm)) hs ha).mono ?_
    rintro e w2 ⟨rfl, h2, f2⟩
    go_wp2_with fail
    go_ret
    exact ⟨rfl, _, hle, h1.to f2 (by simpa using hne), h2, (HF.out.nil.trans (f1.two f2))⟩
  all_goals
    have hle := bits_le s a c.n ha
    go_enter Try.func38, Try.ntmps38
    go_wp2_with fail
    refine (bits_any A s a c.n _ HR.out hs ha).mono ?_
    rintro e w1 ⟨rfl, h1, f1⟩
    have k1 : w1.cell? ⟨w.heap.size, 1, none⟩ = some (.int .i64 c.n) := cell_of (f1.blk HC.out (by simp; omega)) 1
    go_wp2_with fail
    refine (xbits_any B s a c.n _ (HX.out.to f1 (by simpa using hne.symm)) hs ha).mono ?_
    rintro e w2 ⟨rfl, h2, f2⟩
    go_wp2_with fail
    go_ret
    exact ⟨rfl, _, hle, h1.to f2 (by simpa using hne), h2, (HF.out.nil.trans (f1.two f2))⟩

set_option maxRecDepth 100000 in
set_option maxHeartbeats 4000000 in
theorem bitrPlays_walk (w : World) (s : ByteArray) (w0 : s.size ≤ maxLen) (a1 : Option Addr) (c1 : Nat) (x1 : List Call03) (l1 : x1.length ≤ maxLen) (s1 : SlOf Call03.enc Call03.sz w a1 x1) (o1 : ∀ x, x ∈ x1 → x.ok) :
    Calls Try.prog 9 #[.string s, .slice a1 x1.length c1] w fun e w' => e = .returned (.bool true) ∧ Below w.heap.size w w' := by
  have S1 := Lib.hid s1
  have O1 := Lib.hid o1
  clear s1 o1 w0 l1
  by_cases hbig : 4096 < s.size
  · have hbig' : (4096 : Int) < (s.size : Int) := by omega
    go_enter Try.func9, Try.ntmps9
    go_wp2_with fail
    refine (alive03 w).mono ?_
    rintro e w' ⟨rfl, hb⟩
    go_wp2_with fail
    go_ret
    exact ⟨rfl, hb⟩
  by_cases hmany : 300 < x1.length
  · have hbig' : (s.size : Int) ≤ 4096 := by omega
    have hmany' : (300 : Int) < (x1.length : Int) := by omega
    go_enter Try.func9, Try.ntmps9
    go_wp2_with fail
    refine (alive03 w).mono ?_
    rintro e w' ⟨rfl, hb⟩
    go_wp2_with fail
    go_ret
    exact ⟨rfl, hb⟩
  have i1 : (s.size : Int) ≤ 4096 := by omega
  have i2 : (x1.length : Int) ≤ 300 := by omega
  have hs : s.size ≤ 1000000000 := by omega
  clear hbig hmany
  go_enter Try.func9, Try.ntmps9
  go_wp2_with fail
  refine (rnew_any s w).mono ?_
  rintro e wa ⟨rfl, h1, f1⟩
  go_wp2_with fail
  have h2 : Rx (wa.alloc (.cells #[.string s, .int .i64 0] 62)) wa.heap.size s 0 := new_of _ _
  have h1' := h1.to (Fr.alloc [] wa (.cells #[.string s, .int .i64 0] 62)) (by simp)
  have g2 := (Fr.alloc [] wa (.cells #[.string s, .int .i64 0] 62)).out f1.below (by simp)
  have hlt : w.heap.size < wa.heap.size := lt_of h1
  have hle : w.heap.size ≤ wa.heap.size := by omega
  go_loopw [7] (fun i wr => ∃ n a : Nat, n ≤ x1.length ∧ i = .int .i64 n ∧ a ≤ 8 * s.size ∧ Rd wr w.heap.size s a ∧ Rx wr wa.heap.size s a ∧ Below w.heap.size w wr) (fun i _ => x1.length - (intOf i).toNat)
  case atStart => exact ⟨0, 0, Nat.zero_le _, rfl, by omega, h1', h2, g2⟩
  case round =>
    obtain ⟨n, a, hn, rfl, ha, hR, hX, hB⟩ := hrel
    by_cases hnx : n < x1.length
    · obtain ⟨c, hc⟩ : ∃ c, x1[n]? = some c := ⟨x1[n], List.getElem?_eq_getElem hnx⟩
      have hok := O1.out c (List.mem_of_getElem? hc)
      obtain ⟨b, o, rfl, hbl, hcell⟩ := S1.out.below hB (by intro h; rw [h] at hnx; simp at hnx)
      have k0 := hcell n c hc 0 (.int .u8 c.act) rfl
      have k1 := hcell n c hc 1 (.int .i64 c.n) rfl
      simp only [Call03.sz, Nat.add_zero] at k0 k1
      rw [← Nat.add_assoc] at k1
      have HR := Lib.hid hR
      have HX := Lib.hid hX
      have hB0 := Lib.hid hB
      have HO := Lib.hid hok
      clear hcell hc hR hX hB hok
      go_wp2_with fail
      go_region_with (first | (go_at_call 38; refine (does_any w.heap.size wa.heap.size s a c HO.out _ (by exact HR.out) (by exact HX.out) (by omega) hs ha).mono ?_; rintro e w3 ⟨rfl, a', ha', hR', hX', hF'⟩; have x1c := hX'.c1) | (go_at_call 23; refine (at_any _ s a' _ (by exact hR')).mono ?_; rintro e w4 ⟨rfl, rfl⟩) | (go_at_call 24; refine (left_any _ s a' _ (by exact hR') hs ha').mono ?_; rintro e w5 ⟨rfl, n1, rfl⟩) | (go_at_call 39; refine (xleft_any _ s a' _ (by exact hX') hs ha').mono ?_; rintro e w6 ⟨rfl, n2, rfl⟩))
      all_goals
        go_wp2_with fail
        go_roundw
        case rel => exact ⟨n + 1, a', by omega, by go_num, ha', hR'.to (Fr.drewN [] _ _) (by simp), hX'.to (Fr.drewN [] _ _) (by simp), (Fr.drewN [] _ _).out (hF'.out (hB0.out.drew) (by simp; omega)) (by simp)⟩
        case measure => simp [intOf]; omega
    · have hnx' : ¬ (n : Int) < (x1.length : Int) := by omega
      go_wp2_with fail
      refine (alive03 _).mono ?_
      rintro e w9 ⟨rfl, hb⟩
      go_wp2_with fail
      go_ret
      exact ⟨rfl, (Fr.of_below (l := []) hb).out hB (by simp)⟩
end Go.Proofs.Ytlognooioemenaa