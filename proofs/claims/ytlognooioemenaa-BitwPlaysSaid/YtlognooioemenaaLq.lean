/- The statement BitwPlays: the walk of its Go function. -/
import Derived.Test.YtlognooioemenaaBy
import Derived.Test.YtlognooioemenaaLm
import Derived.Deep.RegionHeld3
import Derived.Deep.RegionWith
namespace Go.Proofs.Ytlognooioemenaa
open Go.RowKit
set_option linter.unusedVariables false
set_option linter.unusedSimpArgs false

/-- What a call does to the document's writer. -/
structure DoesX (w w' : World) (b : Nat) (v : Value) (N L N' L' most : Nat) (E : Int) : Prop where
  ex : ∃ v', Wx w' b v' (if E = 0 then N' else N) (if E = 0 then L' else L) most ∧ NewRow w v v' ∧ Fr (wfp b v) w w'
theorem xwbits_all (b : Nat) (v : Value) (N L most n : Nat) (size : Int) (w : World) (hw : Wx w b v N L most) (hL : L ≤ 1000000000) (hm : most ≤ 9223372036854775807) (hn : n < 2 ^ 64) :
    Calls Try.prog 61 #[.pointer (some ⟨b, 0, none⟩), .int .u64 n, .int .i64 size] w fun e w' => e = .returned (.int .i64 (wbE L most n size)) ∧ DoesX w w' b v N L (N + n * 2 ^ L) (L + size.toNat) most (wbE L most n size) := by
  by_cases he : wbE L most n size = 0
  · have he' := he
    unfold wbE at he'
    split at he'
    · omega
    · rename_i h1
      split at he'
      · rename_i h2
        obtain ⟨k, rfl⟩ := Int.eq_ofNat_of_zero_le (show 0 ≤ size by omega)
        simp only [Int.toNat_natCast] at h1 h2
        refine (xwbits_ok b v N L most n k w hw hL hm (by omega) (by omega) h2).mono ?_
        rintro e w' ⟨rfl, v', k1, k2, k3⟩
        exact ⟨by rw [he], ⟨v', by rw [if_pos he, if_pos he]; exact k1, k2, k3⟩⟩
      · omega
  · refine (xwbits_err b v N L most n size w hw hL hm hn he).mono ?_
    rintro e w' ⟨rfl, f⟩
    exact ⟨rfl, ⟨v, by rw [if_neg he, if_neg he]; exact hw.to f (by simp), NewRow.refl _ _, f.nil⟩⟩

/-- Both writers hold the same bits; their blocks are apart. -/
structure Pq (w : World) (A : Nat) (va : Value) (B : Nat) (vb : Value) (N L most : Nat) : Prop where
  a : Wr w A va N L most
  b : Wx w B vb N L most
  dis : ∀ i, i ∈ wfp A va → i ∉ wfp B vb
theorem Pq.to {w w' : World} {A : Nat} {va : Value} {B : Nat} {vb : Value} {N L most : Nat} (h : Pq w A va B vb N L most) (f : Fr [] w w') : Pq w' A va B vb N L most := ⟨h.a.to f (by simp), h.b.to f (by simp), h.dis⟩
/-- What a call does to both. -/
structure Plays (w w' : World) (A : Nat) (va : Value) (B : Nat) (vb : Value) (L most s : Nat) : Prop where
  ex : ∃ va' vb' N' L', L' ≤ L + 64 + 8 * s ∧ Pq w' A va' B vb' N' L' most ∧ NewRow w va va' ∧ NewRow w vb vb' ∧ Fr (wfp A va ++ wfp B vb) w w'

theorem Does.of_fr {w w1 w2 : World} {b : Nat} {v : Value} {N L N' L' most : Nat} {E : Int} (d : Does w1 w2 b v N L N' L' most E) (f : Fr [] w w1) : Does w w2 b v N L N' L' most E := by
  obtain ⟨v', k1, k2, k3⟩ := d.ex
  exact ⟨v', k1, (NewRow.refl w v).trans k2 f.size, f.nil.trans k3⟩
theorem DoesX.of_fr {w w1 w2 : World} {b : Nat} {v : Value} {N L N' L' most : Nat} {E : Int} (d : DoesX w1 w2 b v N L N' L' most E) (f : Fr [] w w1) : DoesX w w2 b v N L N' L' most E := by
  obtain ⟨v', k1, k2, k3⟩ := d.ex
  exact ⟨v', k1, (NewRow.refl w v).trans k2 f.size, f.nil.trans k3⟩

/-- The program's writer first, then the document's. -/
theorem plays_of {w w1 w2 w3 : World} {A : Nat} {va : Value} {B : Nat} {vb : Value} {N L N' L' most s : Nat} {E : Int} (h : Pq w A va B vb N L most) (d1 : Does w w1 A va N L N' L' most E) (f : Fr [] w1 w2) (d2 : ∀ (_ : Wx w2 B vb N L most), DoesX w2 w3 B vb N L N' L' most E)
    (hs : (if E = 0 then L' else L) ≤ L + 64 + 8 * s) : Plays w w3 A va B vb L most s := by
  obtain ⟨va', p1, p2, p3⟩ := d1.ex
  have hb2 : Wx w2 B vb N L most := (h.b.to p3 (fun i hi ha => h.dis i ha hi)).to f (by simp)
  obtain ⟨vb', q1, q2, q3⟩ := (d2 hb2).ex
  have hA2 : Wr w2 A va' _ _ most := p1.to f (by simp)
  have hdis : ∀ i, i ∈ wfp A va' → i ∉ wfp B vb := fun i hi hb => by
    rcases p2.mem i hi with h' | h'
    · exact h.dis i h' hb
    · have := h.b.inb i hb; omega
  have hsz : w.heap.size ≤ w2.heap.size := Nat.le_trans p3.size f.size
  refine ⟨va', vb', _, _, hs, ⟨hA2.to q3 hdis, q1, fun i hi hb => ?_⟩, p2, (NewRow.refl w vb).trans q2 hsz, ?_⟩
  · rcases q2.mem i hb with h' | h'
    · exact hdis i hi h'
    · have := hA2.st.lt i hi; omega
  · exact (p3.mono (fun i hi => List.mem_append_left _ hi)).trans ((f.nil).trans (q3.mono (fun i hi => List.mem_append_right _ hi)))
/-- The document's writer first. -/
theorem plays_of' {w w1 w2 w3 : World} {A : Nat} {va : Value} {B : Nat} {vb : Value} {N L N' L' most s : Nat} {E : Int} (h : Pq w A va B vb N L most) (d1 : DoesX w w1 B vb N L N' L' most E) (f : Fr [] w1 w2) (d2 : ∀ (_ : Wr w2 A va N L most), Does w2 w3 A va N L N' L' most E)
    (hs : (if E = 0 then L' else L) ≤ L + 64 + 8 * s) : Plays w w3 A va B vb L most s := by
  obtain ⟨vb', p1, p2, p3⟩ := d1.ex
  have ha2 : Wr w2 A va N L most := (h.a.to p3 (fun i hi hb => h.dis i hi hb)).to f (by simp)
  obtain ⟨va', q1, q2, q3⟩ := (d2 ha2).ex
  have hB2 : Wx w2 B vb' _ _ most := p1.to f (by simp)
  have hdis : ∀ i, i ∈ wfp B vb' → i ∉ wfp A va := fun i hi hb => by
    rcases p2.mem i hi with h' | h'
    · exact h.dis i hb h'
    · have := h.a.st.lt i hb; omega
  have hsz : w.heap.size ≤ w2.heap.size := Nat.le_trans p3.size f.size
  refine ⟨va', vb', _, _, hs, ⟨q1, hB2.to q3 hdis, fun i hi hb => ?_⟩, (NewRow.refl w va).trans q2 hsz, p2, ?_⟩
  · rcases q2.mem i hi with h' | h'
    · exact hdis i hb h'
    · have := hB2.inb i hb; omega
  · exact (p3.mono (fun i hi => List.mem_append_right _ hi)).trans ((f.nil).trans (q3.mono (fun i hi => List.mem_append_left _ hi)))

theorem Plays.of_fr {w w1 w2 : World} {A : Nat} {va : Value} {B : Nat} {vb : Value} {L most s : Nat} (d : Plays w1 w2 A va B vb L most s) (f : Fr [] w w1) : Plays w w2 A va B vb L most s := by
  obtain ⟨va', vb', N', L', h1, h2, h3, h4, h5⟩ := d.ex
  exact ⟨va', vb', N', L', h1, h2, (NewRow.refl w va).trans h3 f.size, (NewRow.refl w vb).trans h4 f.size, f.nil.trans h5⟩
theorem bytes_size (L most : Nat) (s : ByteArray) : (if wbytesE L most s = 0 then L + pad L + 8 * s.size else L) ≤ L + 64 + 8 * s.size := by have := pad_lt L; split <;> omega

theorem wcode_all (A : Nat) (va : Value) (N L most p q : Nat) (w : World) (hw : Wr w A va N L most) (hL : L ≤ 1000000000) (hm : most ≤ 9223372036854775807) (hp1 : p ≤ 4294967295) (hq1 : q ≤ 255) :
    Calls Try.prog 37 #[.pointer (some ⟨A, 0, none⟩), .agg #[.int .u32 p, .int .u8 q]] w fun e w1 => e = .returned (.int .i64 (wbE L most p q)) ∧ Does w w1 A va N L (N + p * 2 ^ L) (L + q) most (wbE L most p q) := by
  refine wcode_any _ p q (wbE L most p q) w (fun w1 => Does w w1 A va N L (N + p * 2 ^ L) (L + q) most (wbE L most p q)) (fun w1 hf1 => ?_) (by omega) (by omega) (by omega) (by omega)
  refine (wbits_all A va N L most p q w1 (hw.to hf1 (by simp)) hL hm (by omega)).mono ?_
  rintro e w2 ⟨h1, h2⟩
  exact ⟨h1, h2.of_fr hf1⟩

set_option maxRecDepth 100000 in
set_option maxHeartbeats 4000000 in
theorem does02 (A : Nat) (va : Value) (B : Nat) (vb : Value) (N L most : Nat) (c : Call02) (hok : c.ok) (hcs : c.s.size ≤ 4096) (w : World) (h : Pq w A va B vb N L most) (hL : L ≤ 1000000) (hm : most ≤ 9223372036854775807) :
    Calls Try.prog 35 #[.pointer (some ⟨A, 0, none⟩), .pointer (some ⟨B, 0, none⟩), .agg #[.int .u8 c.act, .int .u64 c.n, .int .i64 c.size, .string c.s]] w fun e w' => e = .returned (.bool true) ∧ Plays w w' A va B vb L most c.s.size := by
  obtain ⟨⟨o0, o1⟩, ⟨o2, o3⟩, ⟨o4, o5⟩, o6⟩ := hok
  obtain ⟨n, hn'⟩ := Int.eq_ofNat_of_zero_le o2
  rw [hn']
  have hn64 : n < 2 ^ 64 := by omega
  have hm8 : c.act % 8 < 4 ∨ c.act % 8 = 4 ∨ c.act % 8 = 5 ∨ c.act % 8 = 6 ∨ c.act % 8 = 7 := by omega
  have hm0 : 0 ≤ c.act % 8 := by omega
  have fb : Fr [] w (w.alloc (.cells #[.int .u8 c.act, .int .u64 n, .int .i64 c.size, .string c.s] 45)) := Fr.alloc _ _ _
  have hnw := new_of w (.cells #[.int .u8 c.act, .int .u64 n, .int .i64 c.size, .string c.s] 45)
  have HA := Lib.hid h.a.st.lt
  have HB := Lib.hid h.b.inb
  have HH := Lib.hid (h.to fb)
  have HF := Lib.hid fb
  have HC := Lib.hid hnw
  have bsz := Lib.hid (bits_size L most n c.size)
  clear h hn' o2 o3 fb hnw
  rcases hm8 with hm8 | hm8 | hm8 | hm8 | hm8
  case inr.inr.inl =>
    go_enter Try.func35, Try.ntmps35
    go_wp2_with fail
    refine (xwalign_any B vb N L most _ HH.out.b (by omega)).mono ?_
    rintro e w1 ⟨rfl, d1⟩
    have HD := Lib.hid (show DoesX _ w1 B vb N L N (L + pad L) most 0 from ⟨d1⟩)
    have ha := Lib.hid (HH.out.a.to (d1.choose_spec.2.2) (fun i hi hb => HH.out.dis i hi hb))
    clear d1
    go_wp2_with fail
    refine (walign_all A va N L most _ ha.out (by omega) hm).mono ?_
    rintro e w2 ⟨rfl, d2⟩
    have HD2 := Lib.hid d2
    clear d2
    go_wp2_with fail
    go_ret
    have hp := plays_of' (s := c.s.size) HH.out HD.out (Fr.refl [] _) (fun _ => HD2.out) (by rw [if_pos rfl]; have := pad_lt L; omega)
    exact ⟨rfl, hp.of_fr HF.out⟩
  case inr.inr.inr.inl | inr.inr.inr.inr =>
    have hsz := Lib.hid (bytes_size L most c.s)
    go_enter Try.func35, Try.ntmps35
    go_wp2_with fail
    generalize w.alloc (.cells #[.int .u8 c.act, .int .u64 n, .int .i64 c.size, .string c.s] 45) = W0 at *
    have k0 : W0.cell? ⟨w.heap.size, 3, none⟩ = some (.string c.s) := cell_of HC.out 3
    go_region_held3 (fun W => W.cell? ⟨w.heap.size, 3, none⟩ = some (.string c.s)) (first | go_keep) (first | (go_at_call 31; go_must (refine (wbytes_all A va N L most c.s _ (HH.out.a.to (Fr.drew (Fr.refl [] W0)) (by simp)) (by omega) (by omega) hm).mono ?_; rintro e w1 ⟨rfl, d1⟩; have d1' := d1.of_fr (w := W0) (Fr.drew (Fr.refl [] W0)); clear d1; have k1 : w1.cell? ⟨w.heap.size, 3, none⟩ = some (.string c.s) := cell_of (d1'.ex.choose_spec.2.2.blk HC.out (fun hi => by have := HA.out _ hi; omega)) 3; have hb1 := Lib.hid (HH.out.b.to d1'.ex.choose_spec.2.2 (fun i hi hb => HH.out.dis i hb hi)); have HD := Lib.hid d1'; clear d1')) | (go_at_call 60; go_must (refine (xwbytes_any B vb N L most c.s _ (by exact hb1.out) (by omega) (by omega) hm).mono ?_; rintro e w2 ⟨rfl, d2⟩; have k2 : w2.cell? ⟨w.heap.size, 3, none⟩ = some (.string c.s) := cell_of (d2.choose_spec.2.2.blk (HD.out.ex.choose_spec.2.2.blk HC.out (fun hi => by have := HA.out _ hi; omega)) (fun hi => by have := HB.out _ hi; omega)) 3; have HD2 := Lib.hid (show DoesX _ w2 B vb N L _ _ most _ from ⟨d2⟩); clear d2)))
    go_wp2_with fail
    go_ret
    have hp := plays_of (s := c.s.size) HH.out HD.out (Fr.refl [] _) (fun _ => HD2.out) hsz.out
    exact ⟨rfl, hp.of_fr HF.out⟩
  case inl =>
    go_enter Try.func35, Try.ntmps35
    go_wp2_with fail
    generalize w.alloc (.cells #[.int .u8 c.act, .int .u64 n, .int .i64 c.size, .string c.s] 45) = W0 at *
    have k0 : W0.cell? ⟨w.heap.size, 1, none⟩ = some (.int .u64 n) := cell_of HC.out 1
    have l0 : W0.cell? ⟨w.heap.size, 2, none⟩ = some (.int .i64 c.size) := cell_of HC.out 2
    go_region_held3 (fun W => W.cell? ⟨w.heap.size, 1, none⟩ = some (.int .u64 n) ∧ W.cell? ⟨w.heap.size, 2, none⟩ = some (.int .i64 c.size)) (first | go_keep) (first | (go_at_call 28; go_must (refine (wbits_all A va N L most n c.size _ (HH.out.a.to (Fr.drew (Fr.refl [] W0)) (by simp)) (by omega) hm hn64).mono ?_; rintro e w1 ⟨rfl, d1⟩; have d1' := d1.of_fr (w := W0) (Fr.drew (Fr.refl [] W0)); clear d1; have k1 : w1.cell? ⟨w.heap.size, 1, none⟩ = some (.int .u64 n) := cell_of (d1'.ex.choose_spec.2.2.blk HC.out (fun hi => by have := HA.out _ hi; omega)) 1; have l1 : w1.cell? ⟨w.heap.size, 2, none⟩ = some (.int .i64 c.size) := cell_of (d1'.ex.choose_spec.2.2.blk HC.out (fun hi => by have := HA.out _ hi; omega)) 2; have hb1 := Lib.hid (HH.out.b.to d1'.ex.choose_spec.2.2 (fun i hi hb => HH.out.dis i hb hi)); have HD := Lib.hid d1'; clear d1')) | (go_at_call 61; go_must (refine (xwbits_all B vb N L most n c.size _ (by exact hb1.out) (by omega) hm hn64).mono ?_; rintro e w2 ⟨rfl, d2⟩; have k2 : w2.cell? ⟨w.heap.size, 1, none⟩ = some (.int .u64 n) := cell_of (d2.ex.choose_spec.2.2.blk (HD.out.ex.choose_spec.2.2.blk HC.out (fun hi => by have := HA.out _ hi; omega)) (fun hi => by have := HB.out _ hi; omega)) 1; have l2 : w2.cell? ⟨w.heap.size, 2, none⟩ = some (.int .i64 c.size) := cell_of (d2.ex.choose_spec.2.2.blk (HD.out.ex.choose_spec.2.2.blk HC.out (fun hi => by have := HA.out _ hi; omega)) (fun hi => by have := HB.out _ hi; omega)) 2; have HD2 := Lib.hid d2; clear d2)))
    go_wp2_with fail
    go_ret
    have hp := plays_of (s := c.s.size) HH.out HD.out (Fr.refl [] _) (fun _ => HD2.out) (by have := bsz.out; omega)
    exact ⟨rfl, hp.of_fr HF.out⟩
  case inr.inl =>
    obtain ⟨p, hp⟩ : ∃ p : Nat, IntKind.u32.wrap (n : Int) = (p : Int) := ⟨n % 4294967296, by rw [IntKind.wrap_u32]; omega⟩
    have hp1 : p ≤ 4294967295 := by rw [IntKind.wrap_u32] at hp; omega
    obtain ⟨q, hq⟩ : ∃ q : Nat, IntKind.u8.wrap c.size = (q : Int) := ⟨(c.size % 256).toNat, by rw [IntKind.wrap_u8]; omega⟩
    have hq1 : q ≤ 255 := by rw [IntKind.wrap_u8] at hq; omega
    have hp2 : (p : Int) ≤ 4294967295 := by omega
    have hq2 : (q : Int) ≤ 255 := by omega
    have hp3 : p < 2 ^ 64 := by omega
    have bs2 := Lib.hid (bits_size L most p (q : Int))
    go_enter Try.func35, Try.ntmps35
    go_wp2_with fail
    have hK := new_of (w.alloc (.cells #[.int .u8 c.act, .int .u64 n, .int .i64 c.size, .string c.s] 45)) (.cells #[.int .u32 p, .int .u8 q] 57)
    rw [World.size_alloc] at hK
    have hF2 := (Fr.alloc [] (w.alloc (.cells #[.int .u8 c.act, .int .u64 n, .int .i64 c.size, .string c.s] 45)) (.cells #[.int .u32 p, .int .u8 q] 57))
    have HH2 := Lib.hid (HH.out.to hF2)
    have HF2 := Lib.hid (HF.out.trans hF2)
    have HK := Lib.hid hK
    clear hF2 hK
    generalize (w.alloc (.cells #[.int .u8 c.act, .int .u64 n, .int .i64 c.size, .string c.s] 45)).alloc (.cells #[.int .u32 p, .int .u8 q] 57) = W0 at *
    have k0 : W0.cell? ⟨w.heap.size + 1, 0, none⟩ = some (.int .u32 p) := cell_of HK.out 0
    have l0 : W0.cell? ⟨w.heap.size + 1, 1, none⟩ = some (.int .u8 q) := cell_of HK.out 1
    have hcode := wcode_all A va N L most p q W0.drew (HH2.out.a.to (Fr.drew (Fr.refl [] W0)) (by simp)) (by omega) hm hp1 hq1
    have HCODE := Lib.hid hcode
    clear hcode
    have hwp : IntKind.u64.wrap (p : Int) = (p : Int) := by rw [IntKind.wrap_u64]; omega
    have hwq : IntKind.i64.wrap (q : Int) = (q : Int) := by rw [IntKind.wrap_i64]; omega
    go_region_held3 (fun W => W.cell? ⟨w.heap.size + 1, 0, none⟩ = some (.int .u32 p) ∧ W.cell? ⟨w.heap.size + 1, 1, none⟩ = some (.int .u8 q)) (first | go_keep) (first | (go_at_call 37; go_must (refine HCODE.out.mono ?_; rintro e w1 ⟨rfl, d1⟩; have d1' := d1.of_fr (w := W0) (Fr.drew (Fr.refl [] W0)); clear d1; have k1 : w1.cell? ⟨w.heap.size + 1, 0, none⟩ = some (.int .u32 p) := cell_of (d1'.ex.choose_spec.2.2.blk HK.out (fun hi => by have := HA.out _ hi; omega)) 0; have l1 : w1.cell? ⟨w.heap.size + 1, 1, none⟩ = some (.int .u8 q) := cell_of (d1'.ex.choose_spec.2.2.blk HK.out (fun hi => by have := HA.out _ hi; omega)) 1; have hb1 := Lib.hid (HH2.out.b.to d1'.ex.choose_spec.2.2 (fun i hi hb => HH2.out.dis i hb hi)); have HD := Lib.hid d1'; clear d1')) | (go_at_call 61; go_must (refine (xwbits_all B vb N L most p q _ (by exact hb1.out) (by omega) hm hp3).mono ?_; rintro e w2 ⟨rfl, d2⟩; have k2 : w2.cell? ⟨w.heap.size + 1, 0, none⟩ = some (.int .u32 p) := cell_of (d2.ex.choose_spec.2.2.blk (HD.out.ex.choose_spec.2.2.blk HK.out (fun hi => by have := HA.out _ hi; omega)) (fun hi => by have := HB.out _ hi; omega)) 0; have l2 : w2.cell? ⟨w.heap.size + 1, 1, none⟩ = some (.int .u8 q) := cell_of (d2.ex.choose_spec.2.2.blk (HD.out.ex.choose_spec.2.2.blk HK.out (fun hi => by have := HA.out _ hi; omega)) (fun hi => by have := HB.out _ hi; omega)) 1; have HD2 := Lib.hid d2; clear d2)))
    go_wp2_with fail
    go_ret
    have hp := plays_of (s := c.s.size) HH2.out HD.out (Fr.refl [] _) (fun _ => HD2.out) (by have := bs2.out; rw [Int.toNat_natCast] at this; omega)
    exact ⟨rfl, hp.of_fr HF2.out⟩

set_option maxRecDepth 100000 in
set_option maxHeartbeats 8000000 in
theorem bitwPlays_walk (w : World) (m0 : Int) (w0 : (Lit.int .i64 m0).wf = true) (a1 : Option Addr) (c1 : Nat) (x1 : List Call02) (l1 : x1.length ≤ maxLen) (s1 : SlOf Call02.enc Call02.sz w a1 x1) (o1 : ∀ x, x ∈ x1 → x.ok) :
    Calls Try.prog 7 #[.int .i64 m0, .slice a1 x1.length c1] w fun e w' => e = .returned (.bool true) ∧ Below w.heap.size w w' := by
  obtain ⟨b0, b1⟩ := bounds_i64 w0
  obtain ⟨most, hmost⟩ : ∃ most, m0.toNat = most := ⟨_, rfl⟩
  have hm : most ≤ 9223372036854775807 := by omega
  have S1 := Lib.hid s1
  have O1 := Lib.hid o1
  have L1 := Lib.hid l1
  have HMO := Lib.hid hmost
  clear s1 o1 w0 l1 hmost
  go_enter Try.func7, Try.ntmps7
  go_wp2_with fail
  refine (heavy02 w a1 c1 x1 L1.out S1.out O1.out).mono ?_
  rintro e wh ⟨r, rfl, hr, fh⟩
  cases r with
  | true =>
    clear hr
    go_wp2_with fail
    refine (alive02 wh).mono ?_
    rintro e w' ⟨rfl, hb⟩
    go_wp2_with fail
    go_ret
    exact ⟨rfl, (Fr.of_below (l := []) hb).out fh.below (by simp)⟩
  | false =>
    obtain ⟨ht, hn⟩ := hr rfl
    have HT := Lib.hid ht
    have i2 : (x1.length : Int) ≤ 300 := by omega
    clear hr ht
    go_wp2_with fail
    refine (wnew_any m0 wh (by omega)).mono ?_
    rintro e wa ⟨rfl, h1, f1⟩
    go_wp2_with fail
    refine (xwnew_any m0 wa (by omega)).mono ?_
    rintro e wb ⟨rfl, h2, f2⟩
    rw [HMO.out] at h1 h2
    have hP0 : Pq wb wh.heap.size (.slice none 0 0) wa.heap.size (.slice none 0 0) 0 0 most := ⟨h1.to f2 (by simp), h2, by have := lt_of h1.st.blk; simp [wfp, Value.ownBlock]; omega⟩
    have hB0 : Below wh.heap.size wh wb := (f1.trans f2).below
    have hle : wh.heap.size ≤ wa.heap.size := f1.size
    have HP0 := Lib.hid hP0
    clear h1 h2 hP0
    go_wp2_with fail
    go_loopw [7] (fun i wr => ∃ (k N L : Nat) (va vb : Value), k ≤ x1.length ∧ i = .int .i64 k ∧ L ≤ 64 * k + 8 * total (x1.take k) ∧ Pq wr wh.heap.size va wa.heap.size vb N L most ∧ (∀ i, i ∈ wfp wh.heap.size va ++ wfp wa.heap.size vb → wh.heap.size ≤ i) ∧ Below wh.heap.size wh wr) (fun i _ => x1.length - (intOf i).toNat)
    case atStart => exact ⟨0, 0, 0, _, _, Nat.zero_le _, rfl, by simp, HP0.out, by simp [wfp, Value.ownBlock]; omega, hB0⟩
    case round =>
      obtain ⟨k, N, L, va, vb, hk, rfl, hLk, hP, hnew, hBw⟩ := hrel
      by_cases hlt : k < x1.length
      · obtain ⟨c, hc⟩ : ∃ c, x1[k]? = some c := ⟨x1[k], List.getElem?_eq_getElem hlt⟩
        have hok := O1.out c (List.mem_of_getElem? hc)
        have hS := (S1.out.below fh.below).below hBw
        obtain ⟨b, o, rfl, hbl, hcell⟩ := hS (by intro h; rw [h] at hlt; simp at hlt)
        have k0 := hcell k c hc 0 (.int .u8 c.act) rfl
        have k1 := hcell k c hc 1 (.int .u64 c.n) rfl
        have k2 := hcell k c hc 2 (.int .i64 c.size) rfl
        have k3 := hcell k c hc 3 (.string c.s) rfl
        simp only [Call02.sz, Nat.add_zero] at k0 k1 k2 k3
        rw [← Nat.add_assoc] at k1 k2 k3
        have ht1 := total_take x1 k c hc
        have ht2 := total_le x1 (k + 1)
        have hTo := HT.out
        have hL5 : L ≤ 60000 := by omega
        have hcs : c.s.size ≤ 4096 := by omega
        have HN := Lib.hid (And.intro ht1 (And.intro ht2 hLk))
        have HP := Lib.hid hP
        have HO := Lib.hid hok
        have HNW := Lib.hid hnew
        clear hcell hc ht1 ht2 hTo hS hLk hP hok hnew
        go_wp2_with fail
        go_region_with (first | (go_at_call 35; go_must (refine (does02 wh.heap.size va wa.heap.size vb N L most c HO.out hcs _ (HP.out.to (Fr.drew (Fr.refl [] wr))) (by omega) hm).mono ?_; rintro e w3 ⟨rfl, ⟨va', vb', N', L', hL', hP', hn1, hn2, hF'⟩⟩; obtain ⟨xo, xc, rfl⟩ := hP'.b.form; have x0 := hP'.b.c0; have i9 : (L' : Int) ≤ 1000000000 := (by omega); have HP' := Lib.hid hP'; clear hP')) | (go_at_call 30; refine (wlen_any _ va' N' L' most _ (by exact HP'.out.a) (by omega)).mono ?_; rintro e w4 ⟨rfl, n1, rfl⟩) | (go_at_call 29; refine (wtext_any _ va' N' L' most _ (by exact HP'.out.a.to (Fr.drewN [] _ _) (by simp)) (by omega)).mono ?_; rintro e w5 ⟨rfl, f5⟩) | (go_at_call 36; refine (xwtext_any _ _ N' L' most _ (by exact (HP'.out.b.to (Fr.drewN [] _ _) (by simp)).to f5 (by simp)) (by omega)).mono ?_; rintro e w6 ⟨rfl, f6⟩))
        all_goals
          have hf6 := ((Fr.drewN [] w3 n1).trans f5).trans f6
          go_wp2_with fail
          go_roundw
          case rel => exact ⟨k + 1, N', L', va', _, by omega, by go_num, by have := HN.out.1; have := HN.out.2.2; omega, HP'.out.to hf6, by
            intro i hi
            rcases List.mem_append.1 hi with hi | hi
            · rcases hn1.mem i hi with h' | h'
              · exact HNW.out i (List.mem_append_left _ h')
              · have := hBw.size; have e : wr.drew.heap.size = wr.heap.size := rfl; omega
            · rcases hn2.mem i hi with h' | h'
              · exact HNW.out i (List.mem_append_right _ h')
              · have := hBw.size; have e : wr.drew.heap.size = wr.heap.size := rfl; omega, hf6.out (((Fr.drew (Fr.refl [] wr)).nil.trans hF').out hBw HNW.out) (by simp)⟩
          case measure => simp [intOf]; omega
      · have hlt' : ¬ (k : Int) < (x1.length : Int) := by omega
        go_wp2_with fail
        refine (alive02 _).mono ?_
        rintro e w9 ⟨rfl, hb⟩
        go_wp2_with fail
        go_ret
        exact ⟨rfl, (Fr.of_below (l := []) hb).out ((Fr.of_below (l := []) hBw).out fh.below (by simp)) (by simp)⟩
end Go.Proofs.Ytlognooioemenaa
