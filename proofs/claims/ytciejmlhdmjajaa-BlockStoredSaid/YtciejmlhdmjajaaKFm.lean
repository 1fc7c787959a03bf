/- block.Write. -/
import Derived.Test.YtciejmlhdmjajaaKFl
import Derived.Test.YtciejmlhdmjajaaKEy
namespace Go.Proofs.Ytciejmlhdmjajaa
open Go.RowKit
set_option linter.unusedVariables false
set_option linter.unusedSimpArgs false

theorem write_nil (k : Int) (a : Option Addr) (c n : Nat) (raw : ByteArray) (last : Bool) (w : World) :
    Calls Try.prog 21 #[.pointer none, .int .u8 k, .slice a n c, .string raw, .bool last] w fun e w' => e = .returned (.int .i64 1) ∧ Fr [] w w' := by
  go_enter Try.func21, Try.ntmps21
  go_wp2_with fail
  go_ret
  exact ⟨rfl, Fr.refl _ _⟩
theorem SlOf.frT {α : Type} {enc : α → List Value} {sz : Nat} {w w' : World} {a0 : Option Addr} {xs : List α} {L : List Nat} (h : SlOf enc sz w a0 xs) (hf : Fr L w w') (hL : ∀ i, i ∈ tokB a0 xs → i ∉ L) : SlOf enc sz w' a0 xs := h.kp fun k hk => hf.block k (h.lt k hk) (hL k hk)
/-- What Write does. -/
def Written (b most : Nat) (v : Value) (T : Nat × Nat) (w : World) (e : Ending) (w' : World) : Prop :=
  ∃ v' N' L', ∃ E : Int, e = .returned (.int .i64 E) ∧ Wr w' b v' N' L' most ∧ Fr (wfp b v) w w' ∧ (∀ i, i ∈ wfp b v' → i ∈ wfp b v ∨ w.heap.size ≤ i) ∧ (roomy T most = true ∧ E = 0 ∧ N' = T.1 ∧ L' = T.2 ∨ roomy T most = false ∧ E = 4)
/-- The end of Write. -/
theorem OutTo.written {ob b most : Nat} {v : Value} {T : Nat × Nat} {w W W' : World} (h : OutTo ob b most T (ob :: wfp b v) W W') (f : Fr [] w W) (hob : w.heap.size ≤ ob) :
    ∃ E : Int, W'.cell? ⟨ob, 1, none⟩ = some (.int .i64 E) ∧ Written b most v T w (.returned (.int .i64 E)) W' := by
  obtain ⟨M, k, f1, n1⟩ := h
  obtain ⟨v', N', L', E, rfl, hw, hn, hc, hd⟩ := k.get
  have c1 := cell_of hc 1
  refine ⟨E, by simpa [outO] using c1, v', N', L', E, rfl, hw, f1.outL f.nil ?_, ?_, hd⟩
  · intro i hi
    rcases List.mem_cons.1 hi with rfl | hi
    · exact .inr hob
    · exact .inl hi
  · intro i hi
    rcases n1 i (List.mem_cons_of_mem _ hi) with h | h
    · rcases List.mem_cons.1 h with rfl | h
      · exact absurd hi hn
      · exact .inl h
    · exact .inr (Nat.le_trans f.size h)
theorem Wr.start {w W : World} {b : Nat} {v : Value} {N L most : Nat} {ob : Nat} (hw : Wr w b v N L most) (f : Fr [] w W) (hob : W.heap[ob]? = some (outO b 0)) (ho : w.heap.size ≤ ob) : OutI ob b most (N, L) (ob :: wfp b v) W :=
  ⟨v, N, L, rfl, hw.to f (by simp), fun hi => by have := hw.st.lt _ hi; omega, .inl ⟨by unfold roomy; have := hw.rm; simpa using this, hob, rfl, rfl⟩⟩
set_option maxRecDepth 100000 in
set_option maxHeartbeats 3200000 in
theorem write_stored (b most : Nat) (v : Value) (N L : Nat) (a : Option Addr) (c : Nat) (l : List Tok) (raw : ByteArray) (last : Bool) (w : World) (hw : Wr w b v N L most) (hm : most ≤ 1000000) (hraw : raw.size ≤ 1048576) :
    Calls Try.prog 21 #[.pointer (some ⟨b, 0, none⟩), .int .u8 0, .slice a l.length c, .string raw, .bool last] w (Written b most v (blockF 0 l raw last (N, L)) w) := by
  have hrm := hw.rm
  have HW := Lib.hid hw
  have HS := Lib.hid (fun W => size_stored a c l raw L W (by omega) hraw)
  have HR := Lib.hid (And.intro hraw (show L ≤ 1000000000 by omega))
  clear hw hraw hrm
  go_enter Try.func21, Try.ntmps21
  go_wp2_with fail
  refine (wlen_any b v N L most w HW.out HR.out.2).mono ?_
  rintro e w1 ⟨rfl, n1, rfl⟩
  have hLi : (L : Int) ≤ 1000000000 := by have := HR.out.2; omega
  go_wp2_with fail
  refine (HS.out _).mono ?_
  rintro e w2 ⟨rfl, f2⟩
  have F2 := Lib.hid ((Fr.drewN [] w n1).trans f2)
  clear f2
  go_wp2_with fail
  obtain ⟨V, hV⟩ : ∃ V, w2.alloc (.cells #[.pointer (some ⟨b, 0, none⟩), .int .i64 0] 85) = V := ⟨_, rfl⟩
  have fV : Fr [] w V := by rw [← hV]; exact F2.out.trans (Fr.alloc _ _ _)
  have hob : V.heap[w2.heap.size]? = some (outO b 0) := by rw [← hV]; exact alloc_last _ _
  have HI := Lib.hid (HW.out.start fV hob F2.out.size)
  have FV := Lib.hid fV
  rw [hV]
  clear fV hob hV
  refine (ostored_ok w2.heap.size b most raw last (N, L) _ V HI.out hm HR.out.1).mono ?_
  rintro e w3 ⟨rfl, h3⟩
  obtain ⟨E, hc, hwr⟩ := h3.written FV.out F2.out.size
  have HE := Lib.hid hwr
  clear h3 hwr
  go_wp2_with fail
  go_ret
  exact HE.out
set_option maxRecDepth 100000 in
set_option maxHeartbeats 3200000 in
theorem write_fixed (b most : Nat) (v : Value) (N L : Nat) (a : Option Addr) (c : Nat) (l : List Tok) (raw : ByteArray) (last : Bool) (w : World) (hw : Wr w b v N L most) (hm : most ≤ 1000000) (hraw : raw.size ≤ 1048576)
    (hs : SlOf Tok.enc Tok.sz w a l) (hl : l.length ≤ 1000000) (hok : ∀ t ∈ l, t.ok) (hmay : ∀ t ∈ l, t.may = true) (hna : ∀ i, i ∈ tokB a l → i ∉ wfp b v) :
    Calls Try.prog 21 #[.pointer (some ⟨b, 0, none⟩), .int .u8 1, .slice a l.length c, .string raw, .bool last] w (Written b most v (blockF 1 l raw last (N, L)) w) := by
  have hrm := hw.rm
  have HW := Lib.hid hw
  have HS := Lib.hid (fun W (f : Fr [] w W) => size_fixed a c l raw L W (by omega) hraw (hs.fr f (by simp)) hl hok hmay)
  have HR := Lib.hid (And.intro hraw (show L ≤ 1000000000 by omega))
  have HT := Lib.hid (And.intro hs (And.intro hl (And.intro hok (And.intro hmay (And.intro hna hs.lt)))))
  obtain ⟨S, hS⟩ : ∃ S, 3 + takesL fixLit fixDist (symsL l) = S := ⟨_, rfl⟩
  rw [hS] at HS
  have hSi : (S : Int) ≤ 1000000000 := by
    have := sizeN_le 1 l 0 0 hl hok hmay (by omega)
    unfold sizeN at this
    simp only [Nat.one_ne_zero, if_false, if_true] at this
    omega
  clear hw hraw hrm hs hl hok hmay hna hS
  go_enter Try.func21, Try.ntmps21
  go_wp2_with fail
  refine (wlen_any b v N L most w HW.out HR.out.2).mono ?_
  rintro e w1 ⟨rfl, n1, rfl⟩
  have hLi : (L : Int) ≤ 1000000000 := by have := HR.out.2; omega
  go_wp2_with fail
  refine (HS.out _ (Fr.drewN _ _ _)).mono ?_
  rintro e w2 ⟨rfl, f2⟩
  have F2 := Lib.hid ((Fr.drewN [] w n1).trans f2)
  clear f2
  go_wp2_with fail
  obtain ⟨V, hV⟩ : ∃ V, w2.alloc (.cells #[.pointer (some ⟨b, 0, none⟩), .int .i64 0] 85) = V := ⟨_, rfl⟩
  have fV : Fr [] w V := by rw [← hV]; exact F2.out.trans (Fr.alloc _ _ _)
  have hob : V.heap[w2.heap.size]? = some (outO b 0) := by rw [← hV]; exact alloc_last _ _
  have HI := Lib.hid (HW.out.start fV hob F2.out.size)
  have FV := Lib.hid fV
  rw [hV]
  clear fV hob hV
  refine (obegin_ok w2.heap.size b most 1 last (N, L) _ V HI.out hm (by omega)).mono ?_
  rintro e w3 ⟨rfl, h3⟩
  have H3 := Lib.hid h3
  clear h3
  go_wp2_with fail
  refine (fixed_ok _).mono ?_
  rintro e w4 ⟨g1, g2, rfl, hg1, hg2, hn1, hn2, f4⟩
  have H4 := Lib.hid (And.intro f4 (And.intro hg1 (And.intro hg2 (And.intro hn1 hn2))))
  clear f4 hg1 hg2 hn1 hn2
  go_wp2_with fail
  obtain ⟨M3, k3, f3, n3⟩ := H3.out
  have hsy := osymbols_in w2.heap.size b most a c l (some ⟨g1, 0, none⟩) (some ⟨g2, 0, none⟩) 288 30 fixLit fixDist (putP (N, L) (2 * 1 + last.toNat, 3)) M3 w4
    (HT.out.1.frT ((FV.out.nil.trans f3).trans H4.out.1.nil) (fun p hp hi => by
      rcases List.mem_cons.1 hi with h | h
      · have := HT.out.2.2.2.2.2 p hp; have := F2.out.size; omega
      · exact HT.out.2.2.2.2.1 p hp h)) HT.out.2.1 HT.out.2.2.1 HT.out.2.2.2.1
    (sl_nrow H4.out.2.2.2.1) (sl_nrow H4.out.2.2.2.2) (fun x hx => by have := fixLit_le x hx; omega) (fun x hx => by have := fixDist_le x hx; omega) (.inr (by unfold fixLit; simp)) (by unfold fixDist; simp) fixLit_fine fixDist_fine (k3.to0 H4.out.1) hm
    (fun p hp hi => by
      rcases n3 _ hi with h | h
      · rcases List.mem_cons.1 h with h | h
        · have := HT.out.2.2.2.2.2 p hp; have := F2.out.size; omega
        · exact HT.out.2.2.2.2.1 p hp h
      · have := HT.out.2.2.2.2.2 p hp; have := FV.out.size; omega)
  rw [show fixLit.length = 288 by unfold fixLit; simp, show fixDist.length = 30 by unfold fixDist; simp] at hsy
  refine (callsIn_wide.1 hsy).mono ?_
  rintro e w5 ⟨rfl, h5⟩
  obtain ⟨E, hc, hwr⟩ := (OutTo.trans k3 f3 n3 (h5.after H4.out.1)).written FV.out F2.out.size
  have HE := Lib.hid hwr
  clear h5 hwr hsy k3 f3 n3
  go_wp2_with fail
  go_ret
  have h9 := HE.out
  rw [← puts_cons] at h9
  exact h9
set_option maxRecDepth 100000 in
set_option maxHeartbeats 3200000 in
theorem write_dyn (b most : Nat) (v : Value) (N L : Nat) (a : Option Addr) (c : Nat) (l : List Tok) (raw : ByteArray) (last : Bool) (w : World) (hw : Wr w b v N L most) (hm : most ≤ 1000000) (hraw : raw.size ≤ 1048576)
    (hs : SlOf Tok.enc Tok.sz w a l) (hl : l.length ≤ 1000000) (hok : ∀ t ∈ l, t.ok) (hmay : ∀ t ∈ l, t.may = true) (hna : ∀ i, i ∈ tokB a l → i ∉ wfp b v) :
    Calls Try.prog 21 #[.pointer (some ⟨b, 0, none⟩), .int .u8 2, .slice a l.length c, .string raw, .bool last] w (Written b most v (blockF 2 l raw last (N, L)) w) := by
  have hrm := hw.rm
  have HW := Lib.hid hw
  have HS := Lib.hid (fun W (f : Fr [] w W) => size_dyn a c l raw L W (by omega) hraw (hs.fr f (by simp)) hl hok hmay)
  have HR := Lib.hid (And.intro hraw (show L ≤ 1000000000 by omega))
  have HT := Lib.hid (And.intro hs (And.intro hl (And.intro hok (And.intro hmay (And.intro hna hs.lt)))))
  obtain ⟨S, hS⟩ : ∃ S, 3 + headN (bestLit l) (bestDist l) + takesL (bestLit l) (bestDist l) (symsL l) = S := ⟨_, rfl⟩
  rw [hS] at HS
  have hSi : (S : Int) ≤ 1000000000 := by
    have := sizeN_le 2 l 0 0 hl hok hmay (by omega)
    unfold sizeN at this
    simp only [show ¬ (2 = 0) by omega, show ¬ (2 = 1) by omega, if_false] at this
    omega
  clear hw hraw hrm hs hl hok hmay hna hS
  go_enter Try.func21, Try.ntmps21
  go_wp2_with fail
  refine (wlen_any b v N L most w HW.out HR.out.2).mono ?_
  rintro e w1 ⟨rfl, n1, rfl⟩
  have hLi : (L : Int) ≤ 1000000000 := by have := HR.out.2; omega
  go_wp2_with fail
  refine (HS.out _ (Fr.drewN _ _ _)).mono ?_
  rintro e w2 ⟨rfl, f2⟩
  have F2 := Lib.hid ((Fr.drewN [] w n1).trans f2)
  clear f2
  go_wp2_with fail
  obtain ⟨V, hV⟩ : ∃ V, w2.alloc (.cells #[.pointer (some ⟨b, 0, none⟩), .int .i64 0] 85) = V := ⟨_, rfl⟩
  have fV : Fr [] w V := by rw [← hV]; exact F2.out.trans (Fr.alloc _ _ _)
  have hob : V.heap[w2.heap.size]? = some (outO b 0) := by rw [← hV]; exact alloc_last _ _
  have HI := Lib.hid (HW.out.start fV hob F2.out.size)
  have FV := Lib.hid fV
  have hzV := lt_of hob
  rw [hV]
  clear fV hob hV
  refine (best_ok a c l V (HT.out.1.fr0 FV.out) HT.out.2.1 HT.out.2.2.1 HT.out.2.2.2.1).mono ?_
  rintro e w3 ⟨g1, g2, rfl, hg1, hg2, hn1, hn2, f3⟩
  have H3 := Lib.hid (And.intro f3 (And.intro hg1 (And.intro hg2 (And.intro hn1 hn2))))
  clear f3 hg1 hg2 hn1 hn2
  go_wp2_with fail
  obtain ⟨V2, hV2⟩ : ∃ V2, w3.alloc (.cells #[.slice (some ⟨g1, 0, none⟩) 286 286, .slice (some ⟨g2, 0, none⟩) 30 30] 27) = V2 := ⟨_, rfl⟩
  have fV2 : Fr [] w3 V2 := by rw [← hV2]; exact Fr.alloc _ _ _
  have xV2 : V2.heap[w3.heap.size]? = some (.cells #[.slice (some ⟨g1, 0, none⟩) 286 286, .slice (some ⟨g2, 0, none⟩) 30 30] 27 (0, 0)) := by rw [← hV2]; exact alloc_last _ _
  have H2 := Lib.hid (And.intro (H3.out.1.trans fV2) (And.intro (fV2.blk (show w3.heap[g1]? = _ from H3.out.2.2.2.1) (by simp)) (And.intro (fV2.blk (show w3.heap[g2]? = _ from H3.out.2.2.2.2) (by simp)) xV2)))
  rw [hV2]
  clear fV2 xV2 hV2
  have HI2 := Lib.hid (HI.out.to0 H2.out.1)
  refine (obegin_ok w2.heap.size b most 2 last (N, L) _ V2 HI2.out hm (by omega)).mono ?_
  rintro e w4 ⟨rfl, h4⟩
  have hv3 := H3.out.1.size
  have hcM : ∀ i, V.heap.size ≤ i → i ∉ w2.heap.size :: wfp b v := fun i hi h => by have := HI.out.lt _ h; omega
  have HcM := Lib.hid hcM
  have x4 := h4.fr.blk H2.out.2.2.2 (hcM _ hv3)
  have c0 := cell_of x4 0
  have c1 := cell_of x4 1
  simp at c0 c1
  have H4 := Lib.hid (And.intro h4 (And.intro x4 (And.intro (h4.fr.blk H2.out.2.1 (hcM _ H3.out.2.1)) (h4.fr.blk H2.out.2.2.1 (hcM _ H3.out.2.2.1)))))
  clear h4 x4 hcM hv3
  go_wp2_with fail
  have hg1V : g1 < V2.heap.size := lt_of H2.out.2.1
  have hg2V : g2 < V2.heap.size := lt_of H2.out.2.2.1
  have hcV : w3.heap.size < V2.heap.size := lt_of H2.out.2.2.2
  obtain ⟨M4, k4, f4, n4⟩ := H4.out.1
  have hM4 : ∀ i, V.heap.size ≤ i → i < V2.heap.size → i ∉ M4 := fun i h1 h2 h3 => by
    rcases n4 i h3 with h | h
    · exact HcM.out i h1 h
    · omega
  have hv3 := H3.out.1.size
  have fa4 : Fr (w2.heap.size :: wfp b v) w w4 := (FV.out.trans H2.out.1).nil.trans f4
  have HK4 := Lib.hid (And.intro k4 (And.intro f4 (And.intro n4 (And.intro hM4 (And.intro hv3 fa4)))))
  clear k4 f4 n4 hM4 hv3 fa4
  have hhd := heads_ok (some ⟨g1, 0, none⟩) (some ⟨g2, 0, none⟩) 286 30 (bestLit l) (bestDist l) w4 (sl_nrow H4.out.2.2.1) (sl_nrow H4.out.2.2.2) (bestLit_le l) (bestDist_le l) (bestLit_len l) (bestDist_len l) (by omega) (by omega)
  rw [bestLit_len, bestDist_len] at hhd
  refine hhd.mono ?_
  rintro e w5 ⟨ao, co, ag, ar, cr, rfl, hHM, f5, hco⟩
  have H5 := Lib.hid (And.intro f5 (And.intro hHM hco))
  clear f5 hHM hco hhd
  go_wp2_with fail
  refine (otold_ok w2.heap.size b most w4.heap.size (bestLit l) (bestDist l) ao ar ag co cr _ M4 w5 (HK4.out.1.to0 H5.out.1) hm H5.out.2.1 HK4.out.1.lt (bestLit_le l) (bestDist_le l) (bestLit_len l) (bestDist_len l) H5.out.2.2).mono ?_
  rintro e w6 ⟨rfl, h6⟩
  have F6 : Fr M4 w4 w6 := H5.out.1.nil.trans h6.fr
  have x6 := F6.blk H4.out.2.1 (HK4.out.2.2.2.1 _ HK4.out.2.2.2.2.1 hcV)
  have c0 := cell_of x6 0
  have c1 := cell_of x6 1
  simp at c0 c1
  have H6 := Lib.hid (And.intro h6 (And.intro (F6.blk H4.out.2.2.1 (HK4.out.2.2.2.1 _ H3.out.2.1 hg1V)) (And.intro (F6.blk H4.out.2.2.2 (HK4.out.2.2.2.1 _ H3.out.2.2.1 hg2V)) F6)))
  clear h6 F6 x6
  go_wp2_with fail
  obtain ⟨M6, k6, f6, n6⟩ := H6.out.1
  have hw0 : w.heap.size ≤ w2.heap.size := F2.out.size
  have hw1 := FV.out.size
  have hw2 := H2.out.1.size
  have hw3 := HK4.out.2.1.size
  have hw4 := H5.out.1.size
  have na0 : ∀ p, p ∈ tokB a l → p ∉ w2.heap.size :: wfp b v := fun p hp hi => by
    rcases List.mem_cons.1 hi with h | h
    · have := HT.out.2.2.2.2.2 p hp; omega
    · exact HT.out.2.2.2.2.1 p hp h
  have na4 : ∀ p, p ∈ tokB a l → p ∉ M4 := fun p hp hi => by
    rcases HK4.out.2.2.1 _ hi with h | h
    · exact na0 p hp h
    · have := HT.out.2.2.2.2.2 p hp; omega
  have na6 : ∀ p, p ∈ tokB a l → p ∉ M6 := fun p hp hi => by
    rcases n6 _ hi with h | h
    · exact na4 p hp h
    · have := HT.out.2.2.2.2.2 p hp; omega
  have hsl6 : SlOf Tok.enc Tok.sz w6 a l := (HT.out.1.frT HK4.out.2.2.2.2.2 na0).frT H6.out.2.2.2 na4
  have hsy := osymbols_in w2.heap.size b most a c l (some ⟨g1, 0, none⟩) (some ⟨g2, 0, none⟩) 286 30 (bestLit l) (bestDist l) _ M6 w6
    hsl6 HT.out.2.1 HT.out.2.2.1 HT.out.2.2.2.1
    (sl_nrow H6.out.2.1) (sl_nrow H6.out.2.2.1) (fun x hx => by have := bestLit_le l x hx; omega) (fun x hx => by have := bestDist_le l x hx; omega) (.inl (bestLit_len l)) (bestDist_len l) (bestLit_fine l) (bestDist_fine l) k6 hm na6
  rw [bestLit_len, bestDist_len] at hsy
  refine (callsIn_wide.1 hsy).mono ?_
  rintro e w7 ⟨rfl, h7⟩
  have h64 := OutTo.trans k6 f6 n6 h7
  have h0 := (OutTo.trans HK4.out.1 HK4.out.2.1 HK4.out.2.2.1 (h64.after H5.out.1)).after H2.out.1
  obtain ⟨E, hc, hwr⟩ := h0.written FV.out F2.out.size
  have HE := Lib.hid hwr
  clear h0 h64 h7 hwr hsy k6 f6 n6 hsl6 na6 na4 na0
  go_wp2_with fail
  go_ret
  have h9 := HE.out
  rw [← puts_append, ← puts_cons] at h9
  exact h9
/-- Write at the three kinds. -/
theorem write_any (b most : Nat) (v : Value) (N L : Nat) (k : Nat) (hk : k ≤ 2) (a : Option Addr) (c : Nat) (l : List Tok) (raw : ByteArray) (last : Bool) (w : World) (hw : Wr w b v N L most) (hm : most ≤ 1000000) (hraw : raw.size ≤ 1048576)
    (hs : SlOf Tok.enc Tok.sz w a l) (hl : l.length ≤ 1000000) (hok : ∀ t ∈ l, t.ok) (hmay : ∀ t ∈ l, t.may = true) (hna : ∀ i, i ∈ tokB a l → i ∉ wfp b v) :
    Calls Try.prog 21 #[.pointer (some ⟨b, 0, none⟩), .int .u8 (k : Int), .slice a l.length c, .string raw, .bool last] w (Written b most v (blockF k l raw last (N, L)) w) := by
  rcases (show k = 0 ∨ k = 1 ∨ k = 2 by omega) with rfl | rfl | rfl
  · exact write_stored b most v N L a c l raw last w hw hm hraw
  · exact write_fixed b most v N L a c l raw last w hw hm hraw hs hl hok hmay hna
  · exact write_dyn b most v N L a c l raw last w hw hm hraw hs hl hok hmay hna
end Go.Proofs.Ytciejmlhdmjajaa

