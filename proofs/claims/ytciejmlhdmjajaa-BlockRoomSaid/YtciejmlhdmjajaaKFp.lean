/- block.Write. BlockRoom: a block which has no room is refused, and one that has just so much is written. -/
import Derived.Test.YtciejmlhdmjajaaKFl
import Derived.Test.YtciejmlhdmjajaaKEy
namespace Go.Proofs.Ytciejmlhdmjajaa
open Go.RowKit
set_option linter.unusedVariables false
set_option linter.unusedSimpArgs false

theorem write_nil (k : Int) (a : Option Addr) (c n : Nat) (raw : ByteArray) (last : Bool) (w : World) :
    Calls Try.prog 21 #[.pointer none, .int .u8 k, .slice a n c, .string raw, .bool last] w fun e w' => e = .returned (.int .i64 1) ∧ Fr [] w w' := by
  go_enter Try.func21, Try.ntmps21
  go_wp2_with fail
  go_ret
  exact ⟨rfl, Fr.refl _ _⟩
theorem SlOf.frT {α : Type} {enc : α → List Value} {sz : Nat} {w w' : World} {a0 : Option Addr} {xs : List α} {L : List Nat} (h : SlOf enc sz w a0 xs) (hf : Fr L w w') (hL : ∀ i, i ∈ tokB a0 xs → i ∉ L) : SlOf enc sz w' a0 xs := h.kp fun k hk => hf.block k (h.lt k hk) (hL k hk)
/-- What Write does. -/
def Written (b most : Nat) (v : Value) (T : Nat × Nat) (w : World) (e : Ending) (w' : World) : Prop :=
  ∃ v' N' L', ∃ E : Int, e = .returned (.int .i64 E) ∧ Wr w' b v' N' L' most ∧ Fr (wfp b v) w w' ∧ (∀ i, i ∈ wfp b v' → i ∈ wfp b v ∨ w.heap.size ≤ i) ∧ (roomy T most = true ∧ E = 0 ∧ N' = T.1 ∧ L' = T.2 ∨ roomy T most = false ∧ E = 4)
/-- The end of Write. -/
theorem OutTo.written {ob b most : Nat} {v : Value} {T : Nat × Nat} {w W W' : World} (h : OutTo ob b most T (ob :: wfp b v) W W') (f : Fr [] w W) (hob : w.heap.size ≤ ob) :
    ∃ E : Int, W'.cell? ⟨ob, 1, none⟩ = some (.int .i64 E) ∧ Written b most v T w (.returned (.int .i64 E)) W' := by
  obtain ⟨M, k, f1, n1⟩ := h
  obtain ⟨v', N', L', E, rfl, hw, hn, hc, hd⟩ := k.get
  have c1 := cell_of hc 1
  refine ⟨E, by simpa [outO] using c1, v', N', L', E, rfl, hw, f1.outL f.nil ?_, ?_, hd⟩
  · intro i hi
    rcases List.mem_cons.1 hi with rfl | hi
    · exact .inr hob
    · exact .inl hi
  · intro i hi
    rcases n1 i (List.mem_cons_of_mem _ hi) with h | h
    · rcases List.mem_cons.1 h with rfl | h
      · exact absurd hi hn
      · exact .inl h
    · exact .inr (Nat.le_trans f.size h)
theorem Wr.start {w W : World} {b : Nat} {v : Value} {N L most : Nat} {ob : Nat} (hw : Wr w b v N L most) (f : Fr [] w W) (hob : W.heap[ob]? = some (outO b 0)) (ho : w.heap.size ≤ ob) : OutI ob b most (N, L) (ob :: wfp b v) W :=
  ⟨v, N, L, rfl, hw.to f (by simp), fun hi => by have := hw.st.lt _ hi; omega, .inl ⟨by unfold roomy; have := hw.rm; simpa using this, hob, rfl, rfl⟩⟩
set_option maxRecDepth 100000 in
set_option maxHeartbeats 3200000 in
theorem write_stored (b most : Nat) (v : Value) (N L : Nat) (a : Option Addr) (c : Nat) (l : List Tok) (raw : ByteArray) (last : Bool) (w : World) (hw : Wr w b v N L most) (hm : most ≤ 1000000) (hraw : raw.size ≤ 1048576) :
    Calls Try.prog 21 #[.pointer (some ⟨b, 0, none⟩), .int .u8 0, .slice a l.length c, .string raw, .bool last] w (Written b most v (blockF 0 l raw last (N, L)) w) := by
  have hrm := hw.rm
  have HW := Lib.hid hw
  have HS := Lib.hid (fun W => size_stored a c l raw L W (by omega) hraw)
  have HR := Lib.hid (And.intro hraw (show L ≤ 1000000000 by omega))
  clear hw hraw hrm
  go_enter Try.func21, Try.ntmps21
  go_wp2_with fail
  refine (wlen_any b v N L most w HW.out HR.out.2).mono ?_
  rintro e w1 ⟨rfl, n1, rfl⟩
  have hLi : (L : Int) ≤ 1000000000 := by have := HR.out.2; omega
  go_wp2_with fail
  refine (HS.out _).mono ?_
  rintro e w2 ⟨rfl, f2⟩
  have F2 := Lib.hid ((Fr.drewN [] w n1).trans f2)
  clear f2
  go_wp2_with fail
  obtain ⟨V, hV⟩ : ∃ V, w2.alloc (.cells #[.pointer (some ⟨b, 0, none⟩), .int .i64 0] 85) = V := ⟨_, rfl⟩
  have fV : Fr [] w V := by rw [← hV]; exact F2.out.trans (Fr.alloc _ _ _)
  have hob : V.heap[w2.heap.size]? = some (outO b 0) := by rw [← hV]; exact alloc_last _ _
  have HI := Lib.hid (HW.out.start fV hob F2.out.size)
  have FV := Lib.hid fV
  rw [hV]
  clear fV hob hV
  refine (ostored_ok w2.heap.size b most raw last (N, L) _ V HI.out hm HR.out.1).mono ?_
  rintro e w3 ⟨rfl, h3⟩
  obtain ⟨E, hc, hwr⟩ := h3.written FV.out F2.out.size
  have HE := Lib.hid hwr
  clear h3 hwr
  go_wp2_with fail
  go_ret
  exact HE.out
set_option maxRecDepth 100000 in
set_option maxHeartbeats 3200000 in
theorem write_fixed (b most : Nat) (v : Value) (N L : Nat) (a : Option Addr) (c : Nat) (l : List Tok) (raw : ByteArray) (last : Bool) (w : World) (hw : Wr w b v N L most) (hm : most ≤ 1000000) (hraw : raw.size ≤ 1048576)
    (hs : SlOf Tok.enc Tok.sz w a l) (hl : l.length ≤ 1000000) (hok : ∀ t ∈ l, t.ok) (hmay : ∀ t ∈ l, t.may = true) (hna : ∀ i, i ∈ tokB a l → i ∉ wfp b v) :
    Calls Try.prog 21 #[.pointer (some ⟨b, 0, none⟩), .int .u8 1, .slice a l.length c, .string raw, .bool last] w (Written b most v (blockF 1 l raw last (N, L)) w) := by
  have hrm := hw.rm
  have HW := Lib.hid hw
  have HS := Lib.hid (fun W (f : Fr [] w W) => size_fixed a c l raw L W (by omega) hraw (hs.fr f (by simp)) hl hok hmay)
  have HR := Lib.hid (And.intro hraw (show L ≤ 1000000000 by omega))
  have HT := Lib.hid (And.intro hs (And.intro hl (And.intro hok (And.intro hmay (And.intro hna hs.lt)))))
  obtain ⟨S, hS⟩ : ∃ S, 3 + takesL fixLit fixDist (symsL l) = S := ⟨_, rfl⟩
  rw [hS] at HS
  have hSi : (S : Int) ≤ 1000000000 := by
    have := sizeN_le 1 l 0 0 hl hok hmay (by omega)
    unfold sizeN at this
    simp only [Nat.one_ne_zero, if_false, if_true] at this
    omega
  clear hw hraw hrm hs hl hok hmay hna hS
  go_enter Try.func21, Try.ntmps21
  go_wp2_with fail
  refine (wlen_any b v N L most w HW.out HR.out.2).mono ?_
  rintro e w1 ⟨rfl, n1, rfl⟩
  have hLi : (L : Int) ≤ 1000000000 := by have := HR.out.2; omega
  go_wp2_with fail
  refine (HS.out _ (Fr.drewN _ _ _)).mono ?_
  rintro e w2 ⟨rfl, f2⟩
  have F2 := Lib.hid ((Fr.drewN [] w n1).trans f2)
  clear f2
  go_wp2_with fail
  obtain ⟨V, hV⟩ : ∃ V, w2.alloc (.cells #[.pointer (some ⟨b, 0, none⟩), .int .i64 0] 85) = V := ⟨_, rfl⟩
  have fV : Fr [] w V := by rw [← hV]; exact F2.out.trans (Fr.alloc _ _ _)
  have hob : V.heap[w2.heap.size]? = some (outO b 0) := by rw [← hV]; exact alloc_last _ _
  have HI := Lib.hid (HW.out.start fV hob F2.out.size)
  have FV := Lib.hid fV
  rw [hV]
  clear fV hob hV
  refine (obegin_ok w2.heap.size b most 1 last (N, L) _ V HI.out hm (by omega)).mono ?_
  rintro e w3 ⟨rfl, h3⟩
  have H3 := Lib.hid h3
  clear h3
  go_wp2_with fail
  refine (fixed_ok _).mono ?_
  rintro e w4 ⟨g1, g2, rfl, hg1, hg2, hn1, hn2, f4⟩
  have H4 := Lib.hid (And.intro f4 (And.intro hg1 (And.intro hg2 (And.intro hn1 hn2))))
  clear f4 hg1 hg2 hn1 hn2
  go_wp2_with fail
  obtain ⟨M3, k3, f3, n3⟩ := H3.out
  have hsy := osymbols_in w2.heap.size b most a c l (some ⟨g1, 0, none⟩) (some ⟨g2, 0, none⟩) 288 30 fixLit fixDist (putP (N, L) (2 * 1 + last.toNat, 3)) M3 w4
    (HT.out.1.frT ((FV.out.nil.trans f3).trans H4.out.1.nil) (fun p hp hi => by
      rcases List.mem_cons.1 hi with h | h
      · have := HT.out.2.2.2.2.2 p hp; have := F2.out.size; omega
      · exact HT.out.2.2.2.2.1 p hp h)) HT.out.2.1 HT.out.2.2.1 HT.out.2.2.2.1
    (sl_nrow H4.out.2.2.2.1) (sl_nrow H4.out.2.2.2.2) (fun x hx => by have := fixLit_le x hx; omega) (fun x hx => by have := fixDist_le x hx; omega) (.inr (by unfold fixLit; simp)) (by unfold fixDist; simp) fixLit_fine fixDist_fine (k3.to0 H4.out.1) hm
    (fun p hp hi => by
      rcases n3 _ hi with h | h
      · rcases List.mem_cons.1 h with h | h
        · have := HT.out.2.2.2.2.2 p hp; have := F2.out.size; omega
        · exact HT.out.2.2.2.2.1 p hp h
      · have := HT.out.2.2.2.2.2 p hp; have := FV.out.size; omega)
  rw [show fixLit.length = 288 by unfold fixLit; simp, show fixDist.length = 30 by unfold fixDist; simp] at hsy
  refine (callsIn_wide.1 hsy).mono ?_
  rintro e w5 ⟨rfl, h5⟩
  obtain ⟨E, hc, hwr⟩ := (OutTo.trans k3 f3 n3 (h5.after H4.out.1)).written FV.out F2.out.size
  have HE := Lib.hid hwr
  clear h5 hwr hsy k3 f3 n3
  go_wp2_with fail
  go_ret
  have h9 := HE.out
  rw [← puts_cons] at h9
  exact h9
set_option maxRecDepth 100000 in
set_option maxHeartbeats 3200000 in
theorem write_dyn (b most : Nat) (v : Value) (N L : Nat) (a : Option Addr) (c : Nat) (l : List Tok) (raw : ByteArray) (last : Bool) (w : World) (hw : Wr w b v N L most) (hm : most ≤ 1000000) (hraw : raw.size ≤ 1048576)
    (hs : SlOf Tok.enc Tok.sz w a l) (hl : l.length ≤ 1000000) (hok : ∀ t ∈ l, t.ok) (hmay : ∀ t ∈ l, t.may = true) (hna : ∀ i, i ∈ tokB a l → i ∉ wfp b v) :
    Calls Try.prog 21 #[.pointer (some ⟨b, 0, none⟩), .int .u8 2, .slice a l.length c, .string raw, .bool last] w (Written b most v (blockF 2 l raw last (N, L)) w) := by
  have hrm := hw.rm
  have HW := Lib.hid hw
  have HS := Lib.hid (fun W (f : Fr [] w W) => size_dyn a c l raw L W (by omega) hraw (hs.fr f (by simp)) hl hok hmay)
  have HR := Lib.hid (And.intro hraw (show L ≤ 1000000000 by omega))
  have HT := Lib.hid (And.intro hs (And.intro hl (And.intro hok (And.intro hmay (And.intro hna hs.lt)))))
  obtain ⟨S, hS⟩ : ∃ S, 3 + headN (bestLit l) (bestDist l) + takesL (bestLit l) (bestDist l) (symsL l) = S := ⟨_, rfl⟩
  rw [hS] at HS
  have hSi : (S : Int) ≤ 1000000000 := by
    have := sizeN_le 2 l 0 0 hl hok hmay (by omega)
    unfold sizeN at this
    simp only [show ¬ (2 = 0) by omega, show ¬ (2 = 1) by omega, if_false] at this
    omega
  clear hw hraw hrm hs hl hok hmay hna hS
  go_enter Try.func21, Try.ntmps21
  go_wp2_with fail
  refine (wlen_any b v N L most w HW.out HR.out.2).mono ?_
  rintro e w1 ⟨rfl, n1, rfl⟩
  have hLi : (L : Int) ≤ 1000000000 := by have := HR.out.2; omega
  go_wp2_with fail
  refine (HS.out _ (Fr.drewN _ _ _)).mono ?_
  rintro e w2 ⟨rfl, f2⟩
  have F2 := Lib.hid ((Fr.drewN [] w n1).trans f2)
  clear f2
  go_wp2_with fail
  obtain ⟨V, hV⟩ : ∃ V, w2.alloc (.cells #[.pointer (some ⟨b, 0, none⟩), .int .i64 0] 85) = V := ⟨_, rfl⟩
  have fV : Fr [] w V := by rw [← hV]; exact F2.out.trans (Fr.alloc _ _ _)
  have hob : V.heap[w2.heap.size]? = some (outO b 0) := by rw [← hV]; exact alloc_last _ _
  have HI := Lib.hid (HW.out.start fV hob F2.out.size)
  have FV := Lib.hid fV
  have hzV := lt_of hob
  rw [hV]
  clear fV hob hV
  refine (best_ok a c l V (HT.out.1.fr0 FV.out) HT.out.2.1 HT.out.2.2.1 HT.out.2.2.2.1).mono ?_
  rintro e w3 ⟨g1, g2, rfl, hg1, hg2, hn1, hn2, f3⟩
  have H3 := Lib.hid (And.intro f3 (And.intro hg1 (And.intro hg2 (And.intro hn1 hn2))))
  clear f3 hg1 hg2 hn1 hn2
  go_wp2_with fail
  obtain ⟨V2, hV2⟩ : ∃ V2, w3.alloc (.cells #[.slice (some ⟨g1, 0, none⟩) 286 286, .slice (some ⟨g2, 0, none⟩) 30 30] 27) = V2 := ⟨_, rfl⟩
  have fV2 : Fr [] w3 V2 := by rw [← hV2]; exact Fr.alloc _ _ _
  have xV2 : V2.heap[w3.heap.size]? = some (.cells #[.slice (some ⟨g1, 0, none⟩) 286 286, .slice (some ⟨g2, 0, none⟩) 30 30] 27 (0, 0)) := by rw [← hV2]; exact alloc_last _ _
  have H2 := Lib.hid (And.intro (H3.out.1.trans fV2) (And.intro (fV2.blk (show w3.heap[g1]? = _ from H3.out.2.2.2.1) (by simp)) (And.intro (fV2.blk (show w3.heap[g2]? = _ from H3.out.2.2.2.2) (by simp)) xV2)))
  rw [hV2]
  clear fV2 xV2 hV2
  have HI2 := Lib.hid (HI.out.to0 H2.out.1)
  refine (obegin_ok w2.heap.size b most 2 last (N, L) _ V2 HI2.out hm (by omega)).mono ?_
  rintro e w4 ⟨rfl, h4⟩
  have hv3 := H3.out.1.size
  have hcM : ∀ i, V.heap.size ≤ i → i ∉ w2.heap.size :: wfp b v := fun i hi h => by have := HI.out.lt _ h; omega
  have HcM := Lib.hid hcM
  have x4 := h4.fr.blk H2.out.2.2.2 (hcM _ hv3)
  have c0 := cell_of x4 0
  have c1 := cell_of x4 1
  simp at c0 c1
  have H4 := Lib.hid (And.intro h4 (And.intro x4 (And.intro (h4.fr.blk H2.out.2.1 (hcM _ H3.out.2.1)) (h4.fr.blk H2.out.2.2.1 (hcM _ H3.out.2.2.1)))))
  clear h4 x4 hcM hv3
  go_wp2_with fail
  have hg1V : g1 < V2.heap.size := lt_of H2.out.2.1
  have hg2V : g2 < V2.heap.size := lt_of H2.out.2.2.1
  have hcV : w3.heap.size < V2.heap.size := lt_of H2.out.2.2.2
  obtain ⟨M4, k4, f4, n4⟩ := H4.out.1
  have hM4 : ∀ i, V.heap.size ≤ i → i < V2.heap.size → i ∉ M4 := fun i h1 h2 h3 => by
    rcases n4 i h3 with h | h
    · exact HcM.out i h1 h
    · omega
  have hv3 := H3.out.1.size
  have fa4 : Fr (w2.heap.size :: wfp b v) w w4 := (FV.out.trans H2.out.1).nil.trans f4
  have HK4 := Lib.hid (And.intro k4 (And.intro f4 (And.intro n4 (And.intro hM4 (And.intro hv3 fa4)))))
  clear k4 f4 n4 hM4 hv3 fa4
  have hhd := heads_ok (some ⟨g1, 0, none⟩) (some ⟨g2, 0, none⟩) 286 30 (bestLit l) (bestDist l) w4 (sl_nrow H4.out.2.2.1) (sl_nrow H4.out.2.2.2) (bestLit_le l) (bestDist_le l) (bestLit_len l) (bestDist_len l) (by omega) (by omega)
  rw [bestLit_len, bestDist_len] at hhd
  refine hhd.mono ?_
  rintro e w5 ⟨ao, co, ag, ar, cr, rfl, hHM, f5, hco⟩
  have H5 := Lib.hid (And.intro f5 (And.intro hHM hco))
  clear f5 hHM hco hhd
  go_wp2_with fail
  refine (otold_ok w2.heap.size b most w4.heap.size (bestLit l) (bestDist l) ao ar ag co cr _ M4 w5 (HK4.out.1.to0 H5.out.1) hm H5.out.2.1 HK4.out.1.lt (bestLit_le l) (bestDist_le l) (bestLit_len l) (bestDist_len l) H5.out.2.2).mono ?_
  rintro e w6 ⟨rfl, h6⟩
  have F6 : Fr M4 w4 w6 := H5.out.1.nil.trans h6.fr
  have x6 := F6.blk H4.out.2.1 (HK4.out.2.2.2.1 _ HK4.out.2.2.2.2.1 hcV)
  have c0 := cell_of x6 0
  have c1 := cell_of x6 1
  simp at c0 c1
  have H6 := Lib.hid (And.intro h6 (And.intro (F6.blk H4.out.2.2.1 (HK4.out.2.2.2.1 _ H3.out.2.1 hg1V)) (And.intro (F6.blk H4.out.2.2.2 (HK4.out.2.2.2.1 _ H3.out.2.2.1 hg2V)) F6)))
  clear h6 F6 x6
  go_wp2_with fail
  obtain ⟨M6, k6, f6, n6⟩ := H6.out.1
  have hw0 : w.heap.size ≤ w2.heap.size := F2.out.size
  have hw1 := FV.out.size
  have hw2 := H2.out.1.size
  have hw3 := HK4.out.2.1.size
  have hw4 := H5.out.1.size
  have na0 : ∀ p, p ∈ tokB a l → p ∉ w2.heap.size :: wfp b v := fun p hp hi => by
    rcases List.mem_cons.1 hi with h | h
    · have := HT.out.2.2.2.2.2 p hp; omega
    · exact HT.out.2.2.2.2.1 p hp h
  have na4 : ∀ p, p ∈ tokB a l → p ∉ M4 := fun p hp hi => by
    rcases HK4.out.2.2.1 _ hi with h | h
    · exact na0 p hp h
    · have := HT.out.2.2.2.2.2 p hp; omega
  have na6 : ∀ p, p ∈ tokB a l → p ∉ M6 := fun p hp hi => by
    rcases n6 _ hi with h | h
    · exact na4 p hp h
    · have := HT.out.2.2.2.2.2 p hp; omega
  have hsl6 : SlOf Tok.enc Tok.sz w6 a l := (HT.out.1.frT HK4.out.2.2.2.2.2 na0).frT H6.out.2.2.2 na4
  have hsy := osymbols_in w2.heap.size b most a c l (some ⟨g1, 0, none⟩) (some ⟨g2, 0, none⟩) 286 30 (bestLit l) (bestDist l) _ M6 w6
    hsl6 HT.out.2.1 HT.out.2.2.1 HT.out.2.2.2.1
    (sl_nrow H6.out.2.1) (sl_nrow H6.out.2.2.1) (fun x hx => by have := bestLit_le l x hx; omega) (fun x hx => by have := bestDist_le l x hx; omega) (.inl (bestLit_len l)) (bestDist_len l) (bestLit_fine l) (bestDist_fine l) k6 hm na6
  rw [bestLit_len, bestDist_len] at hsy
  refine (callsIn_wide.1 hsy).mono ?_
  rintro e w7 ⟨rfl, h7⟩
  have h64 := OutTo.trans k6 f6 n6 h7
  have h0 := (OutTo.trans HK4.out.1 HK4.out.2.1 HK4.out.2.2.1 (h64.after H5.out.1)).after H2.out.1
  obtain ⟨E, hc, hwr⟩ := h0.written FV.out F2.out.size
  have HE := Lib.hid hwr
  clear h0 h64 h7 hwr hsy k6 f6 n6 hsl6 na6 na4 na0
  go_wp2_with fail
  go_ret
  have h9 := HE.out
  rw [← puts_append, ← puts_cons] at h9
  exact h9
/-- Write at the three kinds. -/
theorem write_any (b most : Nat) (v : Value) (N L : Nat) (k : Nat) (hk : k ≤ 2) (a : Option Addr) (c : Nat) (l : List Tok) (raw : ByteArray) (last : Bool) (w : World) (hw : Wr w b v N L most) (hm : most ≤ 1000000) (hraw : raw.size ≤ 1048576)
    (hs : SlOf Tok.enc Tok.sz w a l) (hl : l.length ≤ 1000000) (hok : ∀ t ∈ l, t.ok) (hmay : ∀ t ∈ l, t.may = true) (hna : ∀ i, i ∈ tokB a l → i ∉ wfp b v) :
    Calls Try.prog 21 #[.pointer (some ⟨b, 0, none⟩), .int .u8 (k : Int), .slice a l.length c, .string raw, .bool last] w (Written b most v (blockF k l raw last (N, L)) w) := by
  rcases (show k = 0 ∨ k = 1 ∨ k = 2 by omega) with rfl | rfl | rfl
  · exact write_stored b most v N L a c l raw last w hw hm hraw
  · exact write_fixed b most v N L a c l raw last w hw hm hraw hs hl hok hmay hna
  · exact write_dyn b most v N L a c l raw last w hw hm hraw hs hl hok hmay hna
end Go.Proofs.Ytciejmlhdmjajaa
namespace Go.Proofs.Ytciejmlhdmjajaa
open Go.RowKit
set_option linter.unusedVariables false
set_option linter.unusedSimpArgs false

theorem sizeN_few (k : Nat) (l : List Tok) (n at_ : Nat) (hl : l.length ≤ 300) (hok : ∀ t ∈ l, t.ok) (hmay : ∀ t ∈ l, t.may = true) (hn : n ≤ 100) : sizeN k l n at_ ≤ 1000000 ∧ 3 ≤ sizeN k l n at_ := by
  unfold sizeN
  have hso := symsL_ok hmay fun t ht => (hok t ht).1
  have h0 := symsL_len l
  split
  · unfold storedN; omega
  · split
    · have := takesL_le fixLit fixDist (fun x hx => by have := fixLit_le x hx; omega) (fun x hx => by have := fixDist_le x hx; omega) (symsL l) hso; omega
    · have := takesL_le (bestLit l) (bestDist l) (fun x hx => by have := bestLit_le l x hx; omega) (fun x hx => by have := bestDist_le l x hx; omega) (symsL l) hso
      have := headN_le (bestLit l) (bestDist l) (by rw [bestLit_len]; omega) (by rw [bestDist_len]; omega)
      omega
def someB : ByteArray := { data := #[115, 111, 109, 101, 32, 98, 121, 116, 101, 115] }
set_option maxRecDepth 100000 in
set_option maxHeartbeats 6400000 in
theorem blockRoom_walk (w : World) (a0 : Option Addr) (c0 : Nat) (x0 : List RawT) (l0 : x0.length ≤ maxLen) (s0 : SlOf RawT.enc RawT.sz w a0 x0) (o0 : ∀ x, x ∈ x0 → x.ok) (a1 : Int) (w1 : (Lit.int .u8 a1).wf = true) (a2 : Int) (w2 : (Lit.int .u8 a2).wf = true) :
    Calls Try.prog 6 #[.slice a0 x0.length c0, .int .u8 a1, .int .u8 a2] w fun e w' => e = .returned (.bool true) ∧ Below w.heap.size w w' := by
  unfold maxLen at l0
  have h1 : 0 ≤ a1 ∧ a1 ≤ 255 := by simp [Lit.wf, IntKind.min, IntKind.max, IntKind.signed, IntKind.bits] at w1; omega
  have h2 : 0 ≤ a2 ∧ a2 ≤ 255 := by simp [Lit.wf, IntKind.min, IntKind.max, IntKind.signed, IntKind.bits] at w2; omega
  obtain ⟨p, rfl⟩ : ∃ p : Nat, a1 = (p : Int) := ⟨a1.toNat, by omega⟩
  obtain ⟨q, rfl⟩ : ∃ q : Nat, a2 = (q : Int) := ⟨a2.toNat, by omega⟩
  have hp : (p : Int) ≤ 255 := h1.2
  have hq : (q : Int) ≤ 255 := h2.2
  have HW := Lib.hid works13
  have hl1 : (x0.length : Int) ≤ 9223372036854775807 := by omega
  clear w1 w2 h1 h2
  by_cases hbig : 300 < x0.length
  · have hb1i : 300 < (x0.length : Int) := by omega
    clear hbig l0 s0 o0
    go_enter Try.func6, Try.ntmps6
    go_wp2_with fail
    refine (HW.out _).mono ?_
    rintro e w4 ⟨rfl, f4⟩
    have F4 := Lib.hid f4
    clear f4
    go_wp2_with fail
    go_ret
    exact ⟨rfl, F4.out.below⟩
  · have hb1i : (x0.length : Int) ≤ 300 := by omega
    have HM := Lib.hid (made_ok a0 c0 x0 w s0 (by omega) o0)
    have HL := Lib.hid (And.intro (madeL_ok x0 0 o0) (And.intro (madeL_len x0 0) (show x0.length ≤ 300 by omega)))
    clear hbig l0 s0 o0
    obtain ⟨k, hk⟩ : ∃ k : Nat, p % 3 = k := ⟨_, rfl⟩
    have hki : (p : Int) % 3 = (k : Int) := by omega
    have hk2 : (k : Int) ≤ 2 := by omega
    obtain ⟨j, hj⟩ : ∃ j : Nat, q % 4 = j := ⟨_, rfl⟩
    have hji : (q : Int) % 4 = (j : Int) := by omega
    have hj3 : (j : Int) ≤ 3 := by omega
    clear hk hj
    go_enter Try.func6, Try.ntmps6
    go_wp2_with fail
    refine HM.out.mono ?_
    rintro e w4 ⟨ao, co, rfl, hsl, f4⟩
    obtain ⟨l, hl⟩ : ∃ l, madeL 0 x0 = l := ⟨_, rfl⟩
    rw [hl] at HL hsl ⊢
    have HS := Lib.hid (And.intro hsl f4)
    clear hsl f4 hl HM
    have hll : l.length ≤ 300 := by have := HL.out; omega
    have hok : ∀ t ∈ l, t.ok := fun t ht => (HL.out.1 t ht).1
    have hmay : ∀ t ∈ l, t.may = true := fun t ht => (HL.out.1 t ht).2
    have hsz := sizeN_few k l 10 0 hll hok hmay (by omega)
    obtain ⟨n, hn⟩ : ∃ n, sizeN k l 10 0 = n := ⟨_, rfl⟩
    have CS := Lib.hid (sizes_any ao co l someB w4 (by decide) HS.out.1 (by omega) hok hmay k (by omega) 0 (by omega))
    rw [show someB.size = 10 from rfl, hn] at CS
    rw [hn] at hsz
    have HN := Lib.hid (And.intro hn (And.intro hll (And.intro hok hmay)))
    have hni : (n : Int) ≤ 1000000 := by omega
    have hni2 : 3 ≤ (n : Int) := by omega
    obtain ⟨r, hr⟩ : ∃ r, (n + 7) / 8 = r := ⟨_, rfl⟩
    have hri : ((n : Int) + 7) / 8 = (r : Int) := by omega
    have hri2 : (r : Int) ≤ 1000000 := by omega
    have hri3 : 1 ≤ (r : Int) := by omega
    have HR := Lib.hid hr
    clear hn hll hok hmay hsz hr
    go_wp2_with fail
    refine CS.out.mono ?_
    rintro e w5 ⟨rfl, f5⟩
    have F5 := Lib.hid f5
    clear f5 CS
    go_wp2_with fail
    refine (wnew_any _ w5 (by omega)).mono ?_
    rintro e w6 ⟨rfl, hw1, f6⟩
    rw [Int.toNat_natCast] at hw1
    have H6 := Lib.hid (And.intro hw1 f6)
    clear hw1 f6
    go_wp2_with fail
    obtain ⟨m, hm⟩ : ∃ m : Nat, max ((r : Int) - 1 - (j : Int)) 0 = (m : Int) := ⟨(max ((r : Int) - 1 - (j : Int)) 0).toNat, by omega⟩
    rw [hm]
    have HMr := Lib.hid (show m < r by omega)
    refine (wnew_any _ w6 (by omega)).mono ?_
    rintro e w7 ⟨rfl, hw2, f7⟩
    rw [Int.toNat_natCast] at hw2
    have HB7 := Lib.hid (And.intro (H6.out.1.to f7 (by simp)) (And.intro hw2 ((F5.out.trans H6.out.2).trans f7)))
    have hb12 : w5.heap.size ≠ w6.heap.size := by have := lt_of H6.out.1.st.blk; omega
    have HT7 := Lib.hid (show ∀ i, i ∈ tokB ao l → i < w5.heap.size from fun i hi => by have := HS.out.1.lt i hi; have := F5.out.size; omega)
    clear hw2 f7 hm
    go_wp2_with fail
    have hT : (blockF k l someB true (0, 0)).2 = n := by
      rw [blockF_size _ _ _ _ _ (by decide)]
      show 0 + sizeN k l 10 0 = n
      rw [HN.out.1]; omega
    have sl7 : SlOf Tok.enc Tok.sz w7 ao l := HS.out.1.fr0 HB7.out.2.2
    refine (write_any w5.heap.size r (.slice none 0 0) 0 0 k (by omega) ao co l someB true w7 HB7.out.1 (by omega) (by decide) sl7 (by have := HN.out.2.1; omega) HN.out.2.2.1 HN.out.2.2.2 (fun i hi h => by
      have := HT7.out i hi
      simp [wfp, Value.ownBlock] at h
      omega)).mono ?_
    rintro e w8 ⟨v1, N1, L1, E1, rfl, k1, f8, n8, d8⟩
    have hd8 : E1 = 0 ∧ L1 = n := by
      rcases d8 with ⟨_, h1, _, h2⟩ | ⟨h1, _⟩
      · exact ⟨h1, by rw [h2, hT]⟩
      · unfold roomy at h1
        rw [hT] at h1
        have := HR.out
        simp at h1
        omega
    obtain ⟨rfl, rfl⟩ := hd8
    have hm2 := HB7.out.2.1.to f8 (fun i hi h => by
      simp [wfp, Value.ownBlock] at hi h
      omega)
    have H8 := Lib.hid (And.intro k1 (And.intro hm2 (And.intro (f8.outL HB7.out.2.2 (fun i hi => .inr (by simp [wfp, Value.ownBlock] at hi; have := F5.out.size; omega))) hT)))
    have HT8 := Lib.hid (show SlOf Tok.enc Tok.sz w8 ao l from sl7.frT f8 (fun i hi h => by
      have := HT7.out i hi
      simp [wfp, Value.ownBlock] at h
      omega))
    clear k1 f8 n8 d8 hm2 hT sl7
    go_wp2_with fail
    refine (wlen_any w5.heap.size v1 N1 _ r w8 H8.out.1 (by omega)).mono ?_
    rintro e w9 ⟨rfl, n9, rfl⟩
    go_wp2_with fail
    have hx7 := HB7.out.2.1.st.lt w6.heap.size (by simp [wfp])
    refine (write_any w6.heap.size m (.slice none 0 0) 0 0 k (by omega) ao co l someB true _ (H8.out.2.1.to (Fr.drewN [] w8 n9) (by simp)) (by have := HMr.out; omega) (by decide) (HT8.out.fr0 (Fr.drewN [] w8 n9)) (by have := HN.out.2.1; omega) HN.out.2.2.1 HN.out.2.2.2 (fun i hi h => by
      have := HT7.out i hi
      have := H6.out.2.size
      simp [wfp, Value.ownBlock] at h
      omega)).mono ?_
    rintro e w10 ⟨v2, N2, L2, E2, rfl, k2, f10, n10, d10⟩
    have hd10 : E2 = 4 := by
      rcases d10 with ⟨h1, _, _, h2⟩ | ⟨_, h1⟩
      · unfold roomy at h1
        rw [H8.out.2.2.2] at h1
        have := HR.out
        have := HMr.out
        simp at h1
        omega
      · exact h1
    subst hd10
    have F10 := Lib.hid (f10.outL (H8.out.2.2.1.trans (Fr.drewN [] w8 n9)) (fun i hi => .inr (by simp [wfp, Value.ownBlock] at hi; have := HS.out.2.size; have := F5.out.size; have := H6.out.2.size; omega)))
    clear k2 f10 n10 d10
    go_wp2_with fail
    refine (write_nil (k : Int) ao co l.length ByteArray.empty true w10).mono ?_
    rintro e w11 ⟨rfl, f11⟩
    have F11 := Lib.hid (F10.out.trans f11)
    clear f11
    go_wp2_with fail
    refine (HW.out _).mono ?_
    rintro e w12 ⟨rfl, f12⟩
    have F12 := Lib.hid (HS.out.2.trans (F11.out.trans f12))
    clear f12
    go_wp2_with fail
    go_ret
    exact ⟨rfl, F12.out.below⟩
end Go.Proofs.Ytciejmlhdmjajaa

