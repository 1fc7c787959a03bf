/- Codes that a block tells of: their kinds; how many bits its parts put. block.out: the head of codes. -/
import Derived.Test.YtciejmlhdmjajaaKFj
import Derived.Test.YtciejmlhdmjajaaKFi
import Derived.Test.YtciejmlhdmjajaaKEu
namespace Go.Proofs.Ytciejmlhdmjajaa
open Go.RowKit
set_option linter.unusedVariables false
set_option linter.unusedSimpArgs false

theorem lens_fine (F : Nat → Nat) (n m : Nat) (hn : n ≤ 320) (h1 : 1 ≤ m) (h15 : m ≤ 15) (hm : n ≤ 2 ^ m) : kindN ((List.range n).map (lenS (ctL F n) m)) ≠ 5 ∧ kindN ((List.range n).map (lenS (ctL F n) m)) ≠ 4 := by
  have h := lens_kind (ctL F n) m (by rw [ctL_len]; exact hn) h1 h15 (by rw [← posN_sort]; exact Nat.le_trans (posN_le F n) hm)
  have e : lensL (ctL F n) m = (List.range n).map (lenS (ctL F n) m) := by unfold lensL; rw [ctL_len]
  rw [e] at h
  rw [h]
  constructor <;> (repeat' split) <;> omega
theorem bestLit_fine (l : List Tok) : kindN (bestLit l) ≠ 5 ∧ kindN (bestLit l) ≠ 4 := lens_fine _ 286 15 (by omega) (by omega) (by omega) (by omega)
theorem bestDist_fine (l : List Tok) : kindN (bestDist l) ≠ 5 ∧ kindN (bestDist l) ≠ 4 := lens_fine _ 30 15 (by omega) (by omega) (by omega) (by omega)
theorem fixLit_fine : kindN fixLit ≠ 5 ∧ kindN fixLit ≠ 4 := by decide +kernel
theorem fixDist_fine : kindN fixDist ≠ 5 ∧ kindN fixDist ≠ 4 := by decide +kernel
/-- The lengths of the codes of the code lengths. -/
def ownL (lit dist : List Nat) : List Nat := (List.range 19).map (ownF lit dist)
theorem ownL_fine (lit dist : List Nat) : kindN (ownL lit dist) ≠ 5 ∧ kindN (ownL lit dist) ≠ 4 := lens_fine _ 19 7 (by omega) (by omega) (by omega) (by omega)
theorem ownL_get (lit dist : List Nat) (s : Nat) (h : s ≤ 18) : (ownL lit dist).getD s 0 = ownF lit dist s := by
  unfold ownL
  rw [List.getD_eq_getElem?_getD, List.getElem?_map, List.getElem?_range (by omega)]
  rfl
theorem bits_syms (lit dist : List Nat) : ∀ L : List Sy, bitsP (symsP lit dist L) = takesL lit dist L
  | [] => rfl
  | s :: L => by
    have h := bits_syms lit dist L
    unfold symsP at h ⊢
    rw [List.flatMap_cons, bitsP_append, h]
    simp only [bitsP, takesL, Sy.takes, codeW_size]
    omega
def runsP (own : List Nat) (rs : List (Nat × Nat)) : List (Nat × Nat) := rs.flatMap fun p => [codeW own p.1, (p.2, rbN p.1)]
/-- What the head of codes puts. -/
def headP (lit dist : List Nat) : List (Nat × Nat) :=
  [(uptoL lit 257 - 257, 5), (uptoL dist 1 - 1, 5), (uptoL (ordL lit dist) 4 - 4, 4)] ++ (((ordL lit dist).take (uptoL (ordL lit dist) 4)).map (fun n => (n, 3)) ++ runsP (ownL lit dist) (rsL lit dist))
theorem bits_order : ∀ l : List Nat, bitsP (l.map fun n => (n, 3)) = 3 * l.length
  | [] => rfl
  | n :: l => by rw [List.map_cons, bitsP, bits_order l, List.length_cons]; omega
theorem bits_runs (lit dist : List Nat) : ∀ rs : List (Nat × Nat), (∀ p ∈ rs, RunOk p) → bitsP (runsP (ownL lit dist) rs) = takesR (ownF lit dist) rs
  | [], _ => rfl
  | p :: rs, h => by
    have h1 := bits_runs lit dist rs fun q hq => h q (by simp [hq])
    unfold runsP at h1 ⊢
    rw [List.flatMap_cons, bitsP_append, h1]
    simp only [bitsP, takesR, codeW_size]
    rw [ownL_get _ _ _ (h p (by simp)).1]
    omega
theorem bits_head (lit dist : List Nat) (h8 : ∀ x ∈ lit, x ≤ 15) (k8 : ∀ x ∈ dist, x ≤ 15) : bitsP (headP lit dist) = headN lit dist := by
  unfold headP
  rw [bitsP_append, bitsP_append, bits_order, bits_runs lit dist (rsL lit dist) (packL_ok _ (allL_ok h8 k8)), List.length_take, Nat.min_eq_left]
  · simp only [bitsP, headN]; omega
  · have := (kl_le lit dist).2
    have hln : (ordL lit dist).length = 19 := by unfold ordL; rw [List.length_map]; rfl
    omega
theorem pad_size (D : Nat × Nat) : (padP D).2 = D.2 + pad D.2 := rfl
theorem oneD_size (D : Nat × Nat) (s : ByteArray) (last : Bool) : (oneD D s last).2 = D.2 + 3 + (8 - (D.2 + 3) % 8) % 8 + 32 + 8 * s.size := by
  unfold oneD
  simp only [putP, padP, pad]
theorem storedF_size : ∀ (f : Nat) (last : Bool) (D : Nat × Nat) (r : ByteArray), 1 ≤ f → r.size ≤ f * 65535 → (storedF f last D r).2 = D.2 + storedN D.2 r.size := by
  intro f
  induction f with
  | zero => intro _ _ _ h; omega
  | succ f ih =>
    intro last D r _ hr
    unfold storedF
    split
    · rename_i h
      rw [oneD_size]
      unfold storedN
      have : (r.size - 1) / 65535 = 0 := by omega
      rw [this]
      omega
    · rename_i h
      have hf : 1 ≤ f := by
        rcases Nat.eq_zero_or_pos f with rfl | h2
        · omega
        · exact h2
      have hs : (r.extract 0 65535).size = 65535 := by rw [ByteArray.size_extract]; omega
      have hs2 : (r.extract 65535 r.size).size = r.size - 65535 := by rw [ByteArray.size_extract]; omega
      rw [ih _ _ _ hf (by rw [hs2]; omega), oneD_size, hs, hs2]
      unfold storedN
      have h3 : (r.size - 1) / 65535 = (r.size - 65535 - 1) / 65535 + 1 := by omega
      rw [h3]
      generalize (r.size - 65535 - 1) / 65535 = q
      omega
/-- What a block puts. -/
def blockP (kind : Nat) (last : Bool) (l : List Tok) : List (Nat × Nat) :=
  (2 * kind + last.toNat, 3) :: (if kind = 1 then symsP fixLit fixDist (symsL l) else headP (bestLit l) (bestDist l) ++ symsP (bestLit l) (bestDist l) (symsL l))
def blockF (kind : Nat) (l : List Tok) (raw : ByteArray) (last : Bool) (D : Nat × Nat) : Nat × Nat :=
  if kind = 0 then storedF 17 last D raw else puts D (blockP kind last l)
theorem blockF_size (kind : Nat) (l : List Tok) (raw : ByteArray) (last : Bool) (D : Nat × Nat) (hr : raw.size ≤ 1048576) : (blockF kind l raw last D).2 = D.2 + sizeN kind l raw.size D.2 := by
  unfold blockF sizeN
  split
  · exact storedF_size 17 last D raw (by omega) (by omega)
  · rw [puts_len]
    unfold blockP
    rw [bitsP]
    split
    · rw [bits_syms]
    · rw [bitsP_append, bits_syms, bits_head _ _ (bestLit_le l) (bestDist_le l)]
      simp only
      omega
end Go.Proofs.Ytciejmlhdmjajaa
namespace Go.Proofs.Ytciejmlhdmjajaa
open Go.RowKit
set_option linter.unusedVariables false
set_option linter.unusedSimpArgs false

theorem obits_to {ob b most n size : Nat} {D : Nat × Nat} {M : List Nat} {V W : World} (h : OutTo ob b most D M V W) (hm : most ≤ 1000000) (hz : size ≤ 56) (hn : n < 2 ^ size) :
    Calls Try.prog 61 #[.pointer (some ⟨ob, 0, none⟩), .int .u64 n, .int .i64 size] W fun e w' => e = .returned (.tuple #[]) ∧ OutTo ob b most (putP D (n, size)) M V w' := by
  obtain ⟨M1, k1, f1, n1⟩ := h
  exact (obits_ok ob b most n size D M1 W k1 hm hz hn).mono fun e w' ⟨h1, h2⟩ => ⟨h1, OutTo.trans k1 f1 n1 h2⟩
theorem obits_toI {ob b most n size : Nat} {x y : Int} {D : Nat × Nat} {M : List Nat} {V W : World} (h : OutTo ob b most D M V W) (hm : most ≤ 1000000) (hz : size ≤ 56) (hn : n < 2 ^ size) (hx : x = (n : Int)) (hy : y = (size : Int)) :
    Calls Try.prog 61 #[.pointer (some ⟨ob, 0, none⟩), .int .u64 x, .int .i64 y] W fun e w' => e = .returned (.tuple #[]) ∧ OutTo ob b most (putP D (n, size)) M V w' := by
  subst hx; subst hy; exact obits_to h hm hz hn
theorem ocode_to {ob b most n size : Nat} {D : Nat × Nat} {M : List Nat} {V W : World} (h : OutTo ob b most D M V W) (hm : most ≤ 1000000) (hz : size ≤ 32) (hn : n < 2 ^ size) :
    Calls Try.prog 64 #[.pointer (some ⟨ob, 0, none⟩), .agg #[.int .u32 (n : Int), .int .u8 (size : Int)]] W fun e w' => e = .returned (.tuple #[]) ∧ OutTo ob b most (putP D (n, size)) M V w' := by
  obtain ⟨M1, k1, f1, n1⟩ := h
  exact (ocode_ok ob b most n size D M1 W k1 hm hz hn).mono fun e w' ⟨h1, h2⟩ => ⟨h1, OutTo.trans k1 f1 n1 h2⟩
theorem OutTo.fr {ob b most : Nat} {D : Nat × Nat} {M : List Nat} {V W : World} (h : OutTo ob b most D M V W) : Fr M V W := by
  obtain ⟨_, _, h, _⟩ := h
  exact h
def headBox (na nb kl : Nat) (ao ar : Option Addr) (ag co cr n : Nat) : Obj := .cells #[.int .i64 (na : Int), .int .i64 (nb : Int), .int .i64 (kl : Int), .slice ao 19 co, .slice (some ⟨ag, 0, none⟩) 19 19, .slice ar n cr] 79 (0, 0)
set_option maxRecDepth 100000 in
set_option maxHeartbeats 3200000 in
theorem otold_ok (ob b most z : Nat) (lit dist : List Nat) (ao ar : Option Addr) (ag co cr : Nat) (D : Nat × Nat) (M : List Nat) (w : World) (h : OutI ob b most D M w) (hm : most ≤ 1000000) (hH : HeadM z lit dist ao ag ar w) (hz : ∀ i, i ∈ M → i < z)
    (h8 : ∀ x ∈ lit, x ≤ 15) (k8 : ∀ x ∈ dist, x ≤ 15) (hll : lit.length = 286) (hdl : dist.length = 30) (hco : 19 ≤ co) :
    Calls Try.prog 38 #[.pointer (some ⟨ob, 0, none⟩), .agg #[.int .i64 ((uptoL lit 257 : Nat) : Int), .int .i64 ((uptoL dist 1 : Nat) : Int), .int .i64 ((uptoL (ordL lit dist) 4 : Nat) : Int), .slice ao 19 co, .slice (some ⟨ag, 0, none⟩) 19 19, .slice ar (rsL lit dist).length cr]] w fun e w' => e = .returned (.tuple #[]) ∧ OutTo ob b most (puts D (headP lit dist)) M w w' := by
  have HH := Lib.hid (show headP lit dist = [(uptoL lit 257 - 257, 5), (uptoL dist 1 - 1, 5), (uptoL (ordL lit dist) 4 - 4, 4)] ++ (((ordL lit dist).take (uptoL (ordL lit dist) 4)).map (fun n => (n, 3)) ++ runsP (ownL lit dist) (rsL lit dist)) from rfl)
  have ha1 : 257 ≤ uptoL lit 257 := uptoD_ge lit 257 _ (by omega)
  have ha2 : uptoL lit 257 ≤ 286 := by rw [← hll]; exact uptoD_le lit 257 _
  have hb1 : 1 ≤ uptoL dist 1 := uptoD_ge dist 1 _ (by omega)
  have hb2 : uptoL dist 1 ≤ 30 := by rw [← hdl]; exact uptoD_le dist 1 _
  have hkl := kl_le lit dist
  have hrl := rsL_len lit dist (by omega) (by omega)
  have hrk : ∀ p ∈ rsL lit dist, RunOk p := packL_ok _ (allL_ok h8 k8)
  have hO7 := ordL_le lit dist
  have hln : (ordL lit dist).length = 19 := by unfold ordL; rw [List.length_map]; rfl
  have hown : ∀ x ∈ ownL lit dist, x < 256 := fun x hx => by
    obtain ⟨s, _, rfl⟩ := List.mem_map.1 hx
    have := own_le lit dist s
    omega
  have hof := ownL_fine lit dist
  have hol : (ownL lit dist).length = 19 := by unfold ownL; simp
  have hso := sl_nrow hH.own
  obtain ⟨ord, hord⟩ : ∃ x, ordL lit dist = x := ⟨_, rfl⟩
  obtain ⟨na, hna⟩ : ∃ x, uptoL lit 257 = x := ⟨_, rfl⟩
  obtain ⟨nb, hnb⟩ : ∃ x, uptoL dist 1 = x := ⟨_, rfl⟩
  obtain ⟨rs, hrs⟩ : ∃ x, rsL lit dist = x := ⟨_, rfl⟩
  obtain ⟨own, hown2⟩ : ∃ x, ownL lit dist = x := ⟨_, rfl⟩
  have hO := hH.ord
  have hR := hH.rs
  have zo := hH.zo
  have zg := hH.zg
  have zr := hH.zr
  rw [show (List.range 19).map (ownF lit dist) = own from hown2] at hso
  rw [hord] at hkl hO7 hln HH hO ⊢
  rw [hna] at ha1 ha2 HH ⊢
  rw [hnb] at hb1 hb2 HH ⊢
  rw [hrs] at hrl hrk HH hR ⊢
  rw [hown2] at hown hof hol HH
  obtain ⟨kl, hklq⟩ : ∃ x, uptoL ord 4 = x := ⟨_, rfl⟩
  rw [hklq] at hkl HH ⊢
  have hai : (na : Int) ≤ 286 := by omega
  have hai2 : 257 ≤ (na : Int) := by omega
  have hbi : (nb : Int) ≤ 30 := by omega
  have hbi2 : 1 ≤ (nb : Int) := by omega
  have hki : (kl : Int) ≤ 19 := by omega
  have hki2 : 4 ≤ (kl : Int) := by omega
  have hci : (19 : Int) ≤ (co : Int) := by omega
  have hMlt := h.lt
  obtain ⟨bo, oo, rfl, hbo, _⟩ := hO (by intro h; rw [h] at hln; simp at hln)
  have HB := Lib.hid (And.intro hO (And.intro hR (And.intro hso (And.intro hown (And.intro hof (And.intro hol (And.intro hO7 (And.intro hln hrk))))))))
  have HZ := Lib.hid (And.intro zo (And.intro zg (And.intro zr (And.intro hz hMlt))))
  have HL := Lib.hid hrl
  obtain ⟨V, hV⟩ : ∃ V, w.alloc (.cells #[.int .i64 (na : Int), .int .i64 (nb : Int), .int .i64 (kl : Int), .slice (some ⟨bo, oo, none⟩) 19 co, .slice (some ⟨ag, 0, none⟩) 19 19, .slice ar rs.length cr] 79) = V := ⟨_, rfl⟩
  have fV : Fr [] w V := by rw [← hV]; exact Fr.alloc _ _ _
  have xV : V.heap[w.heap.size]? = some (headBox na nb kl (some ⟨bo, oo, none⟩) ar ag co cr rs.length) := by rw [← hV]; exact alloc_last _ _
  have HV := Lib.hid (And.intro fV (And.intro xV (h.to0 fV).refl))
  have hV2 := Lib.hid hV
  clear hO hR hso hown hof hol hO7 hln hrk zo zg zr hz hMlt h hH hrs hna hnb hord hown2 hklq h8 k8 hll hdl ha1 ha2 hb1 hb2 hkl hrl fV xV hV hco
  go_enter Try.func38, Try.ntmps38
  go_wp2_with fail
  rw [hV2.out]
  refine (obits_toI (n := na - 257) (size := 5) HV.out.2.2 hm (by omega) (by omega) (by omega) rfl).mono ?_
  rintro e w1 ⟨rfl, h1⟩
  have H1 := Lib.hid h1
  have c0 := cell_of (h1.fr.blk HV.out.2.1 (fun hi => Nat.lt_irrefl _ (HZ.out.2.2.2.2 _ hi))) 0
  have c1 := cell_of (h1.fr.blk HV.out.2.1 (fun hi => Nat.lt_irrefl _ (HZ.out.2.2.2.2 _ hi))) 1
  simp [headBox] at c0 c1
  clear h1
  go_wp2_with fail
  refine (obits_toI (n := nb - 1) (size := 5) H1.out hm (by omega) (by omega) (by omega) rfl).mono ?_
  rintro e w2 ⟨rfl, h2⟩
  have H2 := Lib.hid h2
  have c2 := cell_of (h2.fr.blk HV.out.2.1 (fun hi => Nat.lt_irrefl _ (HZ.out.2.2.2.2 _ hi))) 2
  simp [headBox] at c2
  clear h2 c0 c1
  go_wp2_with fail
  refine (obits_toI (n := kl - 4) (size := 4) H2.out hm (by omega) (by omega) (by omega) rfl).mono ?_
  rintro e w3 ⟨rfl, h3⟩
  have H3 := Lib.hid h3
  have hX := h3.fr.blk HV.out.2.1 (fun hi => Nat.lt_irrefl _ (HZ.out.2.2.2.2 _ hi))
  have c2 := cell_of hX 2
  have c3 := cell_of hX 3
  simp [headBox] at c2 c3
  clear h3 hX
  go_wp2_with fail
  obtain ⟨D3, hD3⟩ : ∃ D3, putP (putP (putP D (na - 257, 5)) (nb - 1, 5)) (kl - 4, 4) = D3 := ⟨_, rfl⟩
  rw [hD3] at H3
  have HD3 := Lib.hid hD3
  clear hD3 H1 H2
  have hordle : ∀ x ∈ ord, x ≤ 7 := HB.out.2.2.2.2.2.2.1
  have hordl : ord.length = 19 := HB.out.2.2.2.2.2.2.2.1
  have HOL := Lib.hid (And.intro hordle hordl)
  clear hordle hordl
  go_loopw [36] (fun v36 wr => ∃ k : Nat, k ≤ kl ∧ v36 = .int .i64 (k : Int) ∧ OutTo ob b most (puts D3 ((ord.take k).map fun n => (n, 3))) M V wr) (fun v36 _ => kl - (intOf v36).toNat)
  case atStart => exact ⟨0, by omega, rfl, by simpa [puts] using H3.out⟩
  case round =>
    obtain ⟨k, hk, rfl, hT⟩ := hrel
    by_cases hlt : k < kl
    · have hki3 : (k : Int) < (kl : Int) := by omega
      obtain ⟨x, hx⟩ : ∃ x, ord[k]? = some x := ⟨ord[k]'(by have := HOL.out.2; omega), List.getElem?_eq_getElem _⟩
      have hx7 := HOL.out.1 x (List.mem_of_getElem? hx)
      have hsl : SlOf U8 1 wr (some ⟨bo, oo, none⟩) ord := HB.out.1.fr (HV.out.1.nil.trans hT.fr) fun a ha hi => by
        cases ha
        have h1 := HZ.out.1 _ rfl
        have h2 := HZ.out.2.2.2.1 _ hi
        simp only at h1 h2
        omega
      obtain ⟨b', o', he, hbl, hcell⟩ := hsl (by intro h; rw [h] at hx; simp at hx)
      cases he
      have cc := hcell k x hx 0 (.int .u8 (x : Int)) rfl
      rw [Nat.add_zero, Nat.mul_one] at cc
      have hxi : (x : Int) ≤ 7 := by omega
      have HT := Lib.hid hT
      have HX := Lib.hid (show (ord.take (k + 1)).map (fun n => (n, 3)) = (ord.take k).map (fun n => (n, 3)) ++ [(x, 3)] by rw [List.take_add_one, hx]; simp)
      clear hsl hcell hT hx
      go_wp2_with fail
      refine (obits_toI (n := x) (size := 3) HT.out hm (by omega) (by omega) (by rfl) rfl).mono ?_
      rintro e w4 ⟨rfl, h4⟩
      have H4 := Lib.hid h4
      clear h4
      go_wp2_with fail
      exact ⟨⟨k + 1, by omega, by go_num, by rw [HX.out, puts_append]; exact H4.out⟩, by simp [intOf]; omega⟩
    · have hke : k = kl := by omega
      subst hke
      have hX := hT.fr.blk HV.out.2.1 (fun hi => Nat.lt_irrefl _ (HZ.out.2.2.2.2 _ hi))
      have c4 := cell_of hX 4
      have c5 := cell_of hX 5
      simp [headBox] at c4 c5
      have HT := Lib.hid hT
      have hsow := HB.out.2.2.1.fr (HV.out.1.nil.trans hT.fr) fun a ha hi => by
        cases ha
        have h1 := HZ.out.2.1
        have h2 := HZ.out.2.2.2.1 _ hi
        simp only at h1 h2
        omega
      have hwr := hwrites_any (some ⟨ag, 0, none⟩) 19 own wr hsow (by have := HB.out.2.2.2.2.2.1; omega) HB.out.2.2.2.1 HB.out.2.2.2.2.1.1 HB.out.2.2.2.2.1.2
      rw [HB.out.2.2.2.2.2.1] at hwr
      have HWR := Lib.hid hwr
      clear hT hX hsow hwr
      go_wp2_with fail
      refine HWR.out.mono ?_
      rintro e w5 ⟨gw, rfl, hgw, hPw, f5⟩
      have hX := (HT.out.till f5).fr.blk HV.out.2.1 (fun hi => Nat.lt_irrefl _ (HZ.out.2.2.2.2 _ hi))
      have c5 := cell_of hX 5
      simp [headBox] at c5
      obtain ⟨M4, k4, f4, n4⟩ := HT.out
      have HT5 := Lib.hid (And.intro ((k4.to0 f5).refl) (And.intro hPw (And.intro hgw (And.intro k4.lt (And.intro n4 (And.intro (f5.outL f4 (fun i hi => by cases hi)) (k4.to0 f5)))))))
      clear k4 f4 n4
      clear hPw hgw f5 hX HWR
      have hrli : (rs.length : Int) ≤ 320 := by have := HL.out; omega
      go_wp2_with fail
      obtain ⟨D4, hD4⟩ : ∃ D4, puts D3 (List.map (fun n => (n, 3)) (List.take k ord)) = D4 := ⟨_, rfl⟩
      rw [hD4] at HT5
      have HD4 := Lib.hid hD4
      clear hD4
      go_loopw [54] (fun v54 wr => ∃ j : Nat, j ≤ rs.length ∧ v54 = .int .i64 (j : Int) ∧ OutTo ob b most (puts D4 (runsP own (rs.take j))) M4 w5 wr) (fun v54 _ => rs.length - (intOf v54).toNat)
      case atStart => exact ⟨0, by omega, rfl, by simpa [puts, runsP] using HT5.out.1⟩
      case round =>
        obtain ⟨j, hj, rfl, hT2⟩ := hrel
        by_cases hlt2 : j < rs.length
        · have hji : (j : Int) < (rs.length : Int) := by omega
          obtain ⟨p, hp⟩ : ∃ p, rs[j]? = some p := ⟨rs[j], List.getElem?_eq_getElem hlt2⟩
          have hpk := HB.out.2.2.2.2.2.2.2.2 p (List.mem_of_getElem? hp)
          have HP := Lib.hid (show runsP own (rs.take (j + 1)) = runsP own (rs.take j) ++ [codeW own p.1, (p.2, rbN p.1)] by unfold runsP; rw [List.take_add_one, hp, List.flatMap_append]; rfl)
          obtain ⟨p1, p2⟩ := p
          have hp1 : p1 ≤ 18 := hpk.1
          have hp2 : p2 < 2 ^ rbN p1 := hpk.2
          have fM : Fr M V wr := hT2.fr.outL HT5.out.2.2.2.2.2.1 HT5.out.2.2.2.2.1
          obtain ⟨bR, oR, rfl, hbl, hcell⟩ := (HB.out.2.1.fr (HV.out.1.nil.trans fM) fun a ha hi => by
            have h1 := HZ.out.2.2.1 _ ha
            have h2 := HZ.out.2.2.2.1 _ hi
            omega) (by intro h; rw [h] at hp; simp at hp)
          have c0 := hcell j (p1, p2) hp 0 (.int .u8 (p1 : Int)) rfl
          have c1 := hcell j (p1, p2) hp 1 (.int .u8 (p2 : Int)) rfl
          rw [Nat.add_zero] at c0
          rw [← Nat.add_assoc] at c1
          have hrb7 := rbN_le p1
          obtain ⟨rb, hrb⟩ : ∃ rb, rbN p1 = rb := ⟨_, rfl⟩
          have hRB := Lib.hid (fun W => runBits_ok p1 W hp1)
          rw [hrb] at hRB HP hrb7 hp2
          have hrbi : (rb : Int) ≤ 7 := by omega
          have hp1i : (p1 : Int) < 19 := by omega
          have hp2i : (p2 : Int) < 256 := by have : 2 ^ rb ≤ 2 ^ 7 := Nat.pow_le_pow_right (by decide) hrb7; omega
          obtain ⟨M6, k6, f6, n6⟩ := hT2
          have gP : Prow Cd 129 wr gw 19 (codeW own) := f6.blk HT5.out.2.1 (fun hi => by have h1 := HT5.out.2.2.2.1 _ hi; have h2 := HT5.out.2.2.1; omega)
          have HQ := Lib.hid (And.intro k6 (And.intro f6 (And.intro n6 (And.intro gP (And.intro hp2 k6.lt)))))
          clear hcell hp hpk hbl fM k6 f6 n6 gP hp2 hrb
          go_wp2_with fail
          refine (hRB.out _).mono ?_
          rintro e w6 ⟨rfl, f6⟩
          have fa : Fr [] wr w6 := (Fr.alloc _ _ _).trans f6
          have zb := f6.blk (alloc_last wr (.cells #[.int .u8 (p1 : Int), .int .u8 (p2 : Int)] 119)) (by simp)
          have b0 := cell_of zb 0
          have yP : Prow Cd 129 w6 gw 19 (codeW own) := fa.blk HQ.out.2.2.2.1 (by simp)
          have q0 := yP.cell (fun _ => rfl) p1 0 (by omega) (by omega)
          have q1 := yP.cell (fun _ => rfl) p1 1 (by omega) (by omega)
          simp [Cd] at q0 q1 b0
          have HZb := Lib.hid (And.intro zb fa)
          clear f6 fa zb yP hRB
          go_wp2_with fail
          refine (ocode_ok ob b most (codeW own p1).1 (codeW own p1).2 _ M6 _ (HQ.out.1.to0 HZb.out.2) hm (by have := codeW_15 HB.out.2.2.2.2.1.1 p1; omega) (codeW_lt own p1)).mono ?_
          rintro e w7 ⟨rfl, h7⟩
          have zb7 := h7.fr.blk HZb.out.1 (fun hi => Nat.lt_irrefl _ (HQ.out.2.2.2.2.2 _ hi))
          have b1 := cell_of zb7 1
          simp at b1
          have H7 := Lib.hid h7
          clear h7 zb7 q0 q1 b0
          go_wp2_with fail
          refine (obits_toI (n := p2) (size := rb) H7.out hm (by omega) HQ.out.2.2.2.2.1 (by rfl) rfl).mono ?_
          rintro e w8 ⟨rfl, h8⟩
          have H8 := Lib.hid (OutTo.trans HQ.out.1 HQ.out.2.1 HQ.out.2.2.1 (h8.after HZb.out.2))
          clear h8 b1
          go_wp2_with fail
          exact ⟨⟨j + 1, by omega, by go_num, by rw [HP.out, puts_append]; exact H8.out⟩, by simp [intOf]; omega⟩
        · have hje : j = rs.length := by omega
          subst hje
          have HE := Lib.hid ((OutTo.trans HT5.out.2.2.2.2.2.2 HT5.out.2.2.2.2.2.1 HT5.out.2.2.2.2.1 hT2).after HV.out.1)
          clear hT2
          go_wp2_with fail
          refine bodyPost_end (v := .tuple #[]) (by simp [results, Try.results38, go_sem]) rfl ?_
          refine ⟨rfl, ?_⟩
          have h9 := HE.out
          rw [List.take_of_length_le (Nat.le_refl _), ← HD4.out, ← HD3.out] at h9
          rw [HH.out, puts_append, puts_append]
          exact h9
end Go.Proofs.Ytciejmlhdmjajaa

