/- Package block: how many bits the head takes. Package block: Size. -/
import Derived.Test.YtciejmlhdmjajaaGreatKEs
namespace Go.Proofs.YtciejmlhdmjajaaGreat
open Go.RowKit
set_option linter.unusedVariables false
set_option linter.unusedSimpArgs false

def takesR (f : Nat → Nat) : List (Nat × Nat) → Nat
  | [] => 0
  | p :: l => f p.1 + rbN p.1 + takesR f l
theorem takesR_append (f : Nat → Nat) (a b : List (Nat × Nat)) : takesR f (a ++ b) = takesR f a + takesR f b := by
  induction a with
  | nil => simp [takesR]
  | cons x a ih => simp only [List.cons_append, takesR, ih]; omega
theorem rbN_le (s : Nat) : rbN s ≤ 7 := by unfold rbN; (repeat' split) <;> omega
theorem takesR_le (f : Nat → Nat) (hf : ∀ s, f s ≤ 7) : ∀ l : List (Nat × Nat), takesR f l ≤ 14 * l.length
  | [] => by simp [takesR]
  | p :: l => by have := takesR_le f hf l; have := hf p.1; have := rbN_le p.1; simp only [takesR, List.length_cons]; omega
/-- How many bits the head of codes takes. -/
def headN (lit dist : List Nat) : Nat := 14 + 3 * uptoL (ordL lit dist) 4 + takesR (ownF lit dist) (rsL lit dist)
theorem kl_le (lit dist : List Nat) : 4 ≤ uptoL (ordL lit dist) 4 ∧ uptoL (ordL lit dist) 4 ≤ 19 := by
  have hln : (ordL lit dist).length = 19 := by unfold ordL; rw [List.length_map]; rfl
  have h1 := uptoD_le (ordL lit dist) 4 (ordL lit dist).length
  have h2 := uptoD_ge (ordL lit dist) 4 (ordL lit dist).length (by omega)
  unfold uptoL
  omega
theorem rsL_len (lit dist : List Nat) (hl : lit.length ≤ 288) (hd : dist.length ≤ 30) : (rsL lit dist).length ≤ 318 := by
  have h1 := packL_len (allL lit dist)
  have h2 : (allL lit dist).length ≤ 318 := by unfold allL; rw [List.length_append, List.length_take, List.length_take]; omega
  unfold rsL
  omega
set_option maxRecDepth 100000 in
set_option maxHeartbeats 3200000 in
theorem hsize_ok (z : Nat) (lit dist : List Nat) (ao ar : Option Addr) (ag co cr : Nat) (v0 v1 : Nat) (w : World) (hM : HeadM z lit dist ao ag ar w) (h8 : ∀ x ∈ lit, x ≤ 15) (k8 : ∀ x ∈ dist, x ≤ 15) (hll : lit.length ≤ 288) (hdl : dist.length ≤ 30) :
    Calls Tryz.prog 24 #[.agg #[.int .i64 (v0 : Int), .int .i64 (v1 : Int), .int .i64 ((uptoL (ordL lit dist) 4 : Nat) : Int), .slice ao 19 co, .slice (some ⟨ag, 0, none⟩) 19 19, .slice ar (rsL lit dist).length cr]] w fun e w' => e = .returned (.int .i64 ((headN lit dist : Nat) : Int)) ∧ Fr [] w w' := by
  have hrl := rsL_len lit dist hll hdl
  have hrk : ∀ p ∈ rsL lit dist, RunOk p := packL_ok _ (allL_ok h8 k8)
  have hkl := kl_le lit dist
  obtain ⟨kl, hkl2⟩ : ∃ kl, uptoL (ordL lit dist) 4 = kl := ⟨_, rfl⟩
  have HH := Lib.hid (show headN lit dist = 14 + 3 * kl + takesR (ownF lit dist) (rsL lit dist) by unfold headN; rw [hkl2])
  obtain ⟨rs, hrs⟩ : ∃ rs, rsL lit dist = rs := ⟨_, rfl⟩
  have hMr : SlOf RunE 2 w ar rs := by rw [← hrs]; exact hM.rs
  rw [hkl2] at hkl ⊢
  rw [hrs] at hrl hrk HH ⊢
  have hown := hM.own
  have hkli : (kl : Int) ≤ 19 := by omega
  have hrli : (rs.length : Int) ≤ 318 := by omega
  have HB := Lib.hid (And.intro hMr (And.intro hown (And.intro hrk hrl)))
  obtain ⟨f, hf⟩ : ∃ f, ownF lit dist = f := ⟨_, rfl⟩
  have hf7 : ∀ s, f s ≤ 7 := fun s => by rw [← hf]; exact own_le lit dist s
  rw [hf] at HB HH
  have H7 := Lib.hid hf7
  clear hMr hown hrk hrl hM hrs hkl2 h8 k8 hll hdl hf hf7
  go_enter Tryz.func24, Tryz.ntmps24
  go_wp2_with fail
  obtain ⟨V, hV⟩ : ∃ V, w.alloc (.cells #[.int .i64 (v0 : Int), .int .i64 (v1 : Int), .int .i64 (kl : Int), .slice ao 19 co, .slice (some ⟨ag, 0, none⟩) 19 19, .slice ar rs.length cr] 58) = V := ⟨_, rfl⟩
  have fV : Fr [] w V := by rw [← hV]; exact Fr.alloc _ _ _
  have xV : V.heap[w.heap.size]? = some (.cells #[.int .i64 (v0 : Int), .int .i64 (v1 : Int), .int .i64 (kl : Int), .slice ao 19 co, .slice (some ⟨ag, 0, none⟩) 19 19, .slice ar rs.length cr] 58 (0, 0)) := by rw [← hV]; exact alloc_last _ _
  rw [hV]
  have HV := Lib.hid (And.intro fV xV)
  clear hV fV xV
  go_loopw [3, 15] (fun v3 v15 wr => ∃ k : Nat, k ≤ rs.length ∧ v15 = .int .i64 (k : Int) ∧ v3 = .int .i64 ((14 + 3 * kl + takesR f (rs.take k) : Nat) : Int) ∧ Fr [] V wr) (fun _ v15 _ => rs.length - (intOf v15).toNat)
  case atStart => exact ⟨0, by omega, rfl, by simp [takesR], Fr.refl _ _⟩
  case round =>
    obtain ⟨k, hk, rfl, rfl, hf⟩ := hrel
    by_cases hlt : k < rs.length
    · have hki : (k : Int) < (rs.length : Int) := by omega
      obtain ⟨p, hp⟩ : ∃ p, rs[k]? = some p := ⟨rs[k], List.getElem?_eq_getElem hlt⟩
      have hpk := HB.out.2.2.1 p (List.mem_of_getElem? hp)
      obtain ⟨b, o, rfl, hbl, hcell⟩ := (HB.out.1.fr0 (HV.out.1.trans hf)) (by intro h; rw [h] at hp; simp at hp)
      have c0 := hcell k p hp 0 (.int .u8 (p.1 : Int)) rfl
      have c1 := hcell k p hp 1 (.int .u8 (p.2 : Int)) rfl
      rw [Nat.add_zero] at c0
      rw [← Nat.add_assoc] at c1
      have hT := takesR_le f H7.out (rs.take k)
      have HT := Lib.hid (show takesR f (rs.take (k + 1)) = takesR f (rs.take k) + (f p.1 + rbN p.1) by rw [List.take_add_one, hp, takesR_append]; rfl)
      obtain ⟨p1, p2⟩ := p
      simp only at c0 c1 HT
      have hp1 : p1 ≤ 18 := hpk.1
      have hp1i : (p1 : Int) < 19 := by omega
      have hRB := Lib.hid (fun W => runBits_ok p1 W hp1)
      have hrb7 := rbN_le p1
      obtain ⟨rb, hrb⟩ : ∃ rb, rbN p1 = rb := ⟨_, rfl⟩
      rw [hrb] at hRB HT hrb7
      obtain ⟨T, hTe⟩ : ∃ T, 14 + 3 * kl + takesR f (rs.take k) = T := ⟨_, rfl⟩
      have hTi : (T : Int) ≤ 10000 := by rw [List.length_take] at hT; have := HB.out.2.2.2; omega
      have hrbi : (rb : Int) ≤ 7 := by omega
      have hfp := H7.out p1
      have hN := HB.out.2.1.to (HV.out.1.trans hf) (by simp)
      have nc := hN.cell p1 (by omega)
      obtain ⟨y, hy⟩ : ∃ y, f p1 = y := ⟨_, rfl⟩
      have HY := Lib.hid hy
      rw [hy] at nc hfp HT
      have hyi : (y : Int) ≤ 7 := by omega
      have hX := hf.blk HV.out.2 (by simp)
      have x4 := cell_of hX 4
      simp at x4
      rw [hTe]
      have HW := Lib.hid (And.intro hf (And.intro hN (And.intro hX hTe)))
      clear hf hN hX hTe hcell hp hpk hT hrb hy
      go_wp2_with fail
      refine (hRB.out _).mono ?_
      rintro e w2 ⟨rfl, f2⟩
      have fa : Fr [] wr w2 := (Fr.alloc _ _ _).trans f2
      have x4 := cell_of (fa.blk HW.out.2.2.1 (by simp)) 4
      have nc := (HW.out.2.1.to fa (by simp)).cell p1 (by omega)
      rw [HY.out] at nc
      have b0 := cell_of (f2.blk (alloc_last wr _) (by simp)) 0
      simp at x4 b0
      have FA := Lib.hid fa
      clear fa f2 hRB
      go_wp2_with fail
      obtain ⟨hf, hN, hX, hTe⟩ := HW.out
      exact ⟨⟨k + 1, by omega, by go_num, by rw [HT.out, ← Nat.add_assoc, hTe]; go_num, hf.trans FA.out⟩, by simp [intOf]; omega⟩
    · have hke : k = rs.length := by omega
      subst hke
      rw [List.take_of_length_le (Nat.le_refl _)]
      have HF := Lib.hid (HV.out.1.trans hf)
      clear hf
      go_wp2_with fail
      go_ret
      exact ⟨by rw [HH.out]; rfl, HF.out⟩
end Go.Proofs.YtciejmlhdmjajaaGreat
namespace Go.Proofs.YtciejmlhdmjajaaGreat
open Go.RowKit
set_option linter.unusedVariables false
set_option linter.unusedSimpArgs false

def fixLit : List Nat := (List.range 288).map fixF
def fixDist : List Nat := (List.range 30).map fun _ => 5
def bestLit (l : List Tok) : List Nat := (List.range 286).map (bestF false 286 (symsL l))
def bestDist (l : List Tok) : List Nat := (List.range 30).map (bestF true 30 (symsL l))
theorem fixLit_le : ∀ x ∈ fixLit, x ≤ 15 := by decide +kernel
theorem fixDist_le : ∀ x ∈ fixDist, x ≤ 15 := by decide +kernel
theorem bestF_le (d : Bool) (n : Nat) (hn : n ≤ 320) (l : List Sy) (s : Nat) : bestF d n l s ≤ 15 := lenS_le _ n 15 s (by omega) (by omega)
theorem bestLit_le (l : List Tok) : ∀ x ∈ bestLit l, x ≤ 15 := fun x hx => by
  obtain ⟨s, _, rfl⟩ := List.mem_map.1 hx
  exact bestF_le _ _ (by omega) _ _
theorem bestDist_le (l : List Tok) : ∀ x ∈ bestDist l, x ≤ 15 := fun x hx => by
  obtain ⟨s, _, rfl⟩ := List.mem_map.1 hx
  exact bestF_le _ _ (by omega) _ _
def storedN (at_ len : Nat) : Nat := 3 + (8 - (at_ + 3) % 8) % 8 + 32 + (len - 1) / 65535 * 40 + 8 * len
def mayE (kind : Nat) (l : List Tok) (len : Nat) : Int := if 2 < kind ∨ (kind ≠ 0 ∧ l.all Tok.may = false) then 2 else if 1048576 < len then 5 else 0
def sizeN (kind : Nat) (l : List Tok) (len at_ : Nat) : Nat :=
  if kind = 0 then storedN at_ len
  else if kind = 1 then 3 + takesL fixLit fixDist (symsL l)
  else 3 + headN (bestLit l) (bestDist l) + takesL (bestLit l) (bestDist l) (symsL l)
theorem nrow_sl {w : World} {g n : Nat} {F : Nat → Nat} (h : Nrow w g 5 .u8 n F) : SlOf U8 1 w (some ⟨g, 0, none⟩) ((List.range n).map F) := sl_nrow h
set_option maxRecDepth 100000 in
set_option maxHeartbeats 3200000 in
theorem size_stored (a : Option Addr) (c : Nat) (l : List Tok) (raw : ByteArray) (at_ : Nat) (w : World) (hat : at_ ≤ 1000000000) (hraw : raw.size ≤ 1048576) :
    Calls Tryz.prog 8 #[.int .u8 0, .slice a l.length c, .string raw, .int .i64 (at_ : Int)] w fun e w' => e = .returned (.tuple #[.int .i64 ((storedN at_ raw.size : Nat) : Int), .int .i64 0]) ∧ Fr [] w w' := by
  have h1 : (at_ : Int) ≤ 1000000000 := by omega
  have h2 : (raw.size : Int) ≤ 1048576 := by omega
  have HE := Lib.hid (show storedN at_ raw.size = 3 + (8 - (at_ + 3) % 8) % 8 + 32 + (raw.size - 1) / 65535 * 40 + 8 * raw.size from rfl)
  obtain ⟨q, hq⟩ : ∃ q, (raw.size - 1) / 65535 = q := ⟨_, rfl⟩
  have hq16 : (q : Int) ≤ 16 := by omega
  have eq1 : max ((raw.size : Int) - 1) 0 / 65535 = (q : Int) := by omega
  obtain ⟨m, hm⟩ : ∃ m, raw.size - 1 = m := ⟨_, rfl⟩
  have em : max ((raw.size : Int) - 1) 0 = (m : Int) := by omega
  have eq2 : (m : Int) / 65535 = (q : Int) := by omega
  have hmi : (m : Int) ≤ 1048576 := by omega
  obtain ⟨u, hu⟩ : ∃ u, (at_ + 3) % 8 = u := ⟨_, rfl⟩
  have eu : ((at_ : Int) + 3) % 8 = (u : Int) := by omega
  have hu8 : (u : Int) ≤ 7 := by omega
  obtain ⟨v, hv⟩ : ∃ v, (8 - u) % 8 = v := ⟨_, rfl⟩
  have ev : (8 - (u : Int)) % 8 = (v : Int) := by omega
  have hv8 : (v : Int) ≤ 7 := by omega
  rw [hq, hu, hv] at HE
  clear hq hm hu hv hat hraw eq1
  go_enter Tryz.func8, Tryz.ntmps8
  go_wp2_with fail
  go_ret2
  refine ⟨?_, Fr.refl _ _⟩
  rw [HE.out]
  simp
  try rfl
set_option maxRecDepth 100000 in
set_option maxHeartbeats 3200000 in
theorem size_fixed (a : Option Addr) (c : Nat) (l : List Tok) (raw : ByteArray) (at_ : Nat) (w : World) (hat : at_ ≤ 1000000000) (hraw : raw.size ≤ 1048576) (hs : SlOf Tok.enc Tok.sz w a l) (hl : l.length ≤ 1000000) (hok : ∀ t ∈ l, t.ok) (hmay : ∀ t ∈ l, t.may = true) :
    Calls Tryz.prog 8 #[.int .u8 1, .slice a l.length c, .string raw, .int .i64 (at_ : Int)] w fun e w' => e = .returned (.tuple #[.int .i64 ((3 + takesL fixLit fixDist (symsL l) : Nat) : Int), .int .i64 0]) ∧ Fr [] w w' := by
  have h1 : (at_ : Int) ≤ 1000000000 := by omega
  have h2 : (raw.size : Int) ≤ 1048576 := by omega
  have HA := Lib.hid (may_all a c l w hs (by omega) hok)
  rw [show l.all Tok.may = true from List.all_eq_true.2 hmay] at HA
  have HB := Lib.hid (And.intro hs (And.intro hl (And.intro hok hmay)))
  have hT := takesL_le fixLit fixDist (fun x hx => by have := fixLit_le x hx; omega) (fun x hx => by have := fixDist_le x hx; omega) (symsL l) (symsL_ok hmay fun t ht => (hok t ht).1)
  have hT2 := symsL_len l
  obtain ⟨T, hTe⟩ : ∃ T, takesL fixLit fixDist (symsL l) = T := ⟨_, rfl⟩
  have hTi : (T : Int) ≤ 1000000000 := by omega
  have HT := Lib.hid hTe
  rw [hTe]
  clear hT hT2 hTe hs hl hok hmay hat hraw
  go_enter Tryz.func8, Tryz.ntmps8
  go_wp2_with fail
  refine HA.out.mono ?_
  rintro e w1 ⟨rfl, f1⟩
  have F1 := Lib.hid f1
  clear f1
  go_wp2_with fail
  refine (fixed_ok w1).mono ?_
  rintro e w2 ⟨g1, g2, rfl, hg1, hg2, hn1, hn2, f2⟩
  have F2 := Lib.hid (F1.out.trans f2)
  have HW := Lib.hid (weigh_ok a c l (some ⟨g1, 0, none⟩) (some ⟨g2, 0, none⟩) 288 30 fixLit fixDist w2 (HB.out.1.fr0 F2.out) HB.out.2.1 HB.out.2.2.1 HB.out.2.2.2 (sl_nrow hn1) (sl_nrow hn2) (fun x hx => by have := fixLit_le x hx; omega) (fun x hx => by have := fixDist_le x hx; omega) (.inr rfl) rfl)
  rw [HT.out, show fixLit.length = 288 from rfl, show fixDist.length = 30 from rfl] at HW
  clear hg1 hg2 hn1 hn2 f2
  go_wp2_with fail
  refine HW.out.mono ?_
  rintro e w3 ⟨rfl, f3⟩
  have F3 := Lib.hid (F2.out.trans f3)
  clear f3
  go_wp2_with fail
  go_ret2
  exact ⟨by simp, F3.out⟩
set_option maxRecDepth 100000 in
set_option maxHeartbeats 3200000 in
theorem size_arg (k : Nat) (a : Option Addr) (c : Nat) (l : List Tok) (raw : ByteArray) (at_ : Nat) (w : World) (hat : at_ ≤ 1000000000) (hk : 2 < k) (hk2 : k < 256) :
    Calls Tryz.prog 8 #[.int .u8 (k : Int), .slice a l.length c, .string raw, .int .i64 (at_ : Int)] w fun e w' => e = .returned (.tuple #[.int .i64 0, .int .i64 2]) ∧ Fr [] w w' := by
  have h1 : (at_ : Int) ≤ 1000000000 := by omega
  have h3 : 2 < (k : Int) := by omega
  clear hat hk hk2
  go_enter Tryz.func8, Tryz.ntmps8
  go_wp2_with fail
  go_ret2
  exact ⟨rfl, Fr.refl _ _⟩
set_option maxRecDepth 100000 in
set_option maxHeartbeats 3200000 in
theorem size_long0 (a : Option Addr) (c : Nat) (l : List Tok) (raw : ByteArray) (at_ : Nat) (w : World) (hat : at_ ≤ 1000000000) (hraw : 1048576 < raw.size) :
    Calls Tryz.prog 8 #[.int .u8 0, .slice a l.length c, .string raw, .int .i64 (at_ : Int)] w fun e w' => e = .returned (.tuple #[.int .i64 0, .int .i64 5]) ∧ Fr [] w w' := by
  have h1 : (at_ : Int) ≤ 1000000000 := by omega
  have h3 : 1048576 < (raw.size : Int) := by omega
  clear hat hraw
  go_enter Tryz.func8, Tryz.ntmps8
  go_wp2_with fail
  go_ret2
  exact ⟨rfl, Fr.refl _ _⟩
set_option maxRecDepth 100000 in
set_option maxHeartbeats 3200000 in
theorem size_bad (k : Nat) (a : Option Addr) (c : Nat) (l : List Tok) (raw : ByteArray) (at_ : Nat) (w : World) (hat : at_ ≤ 1000000000) (hk : k = 1 ∨ k = 2) (hs : SlOf Tok.enc Tok.sz w a l) (hl : l.length ≤ 1000000) (hok : ∀ t ∈ l, t.ok) (hm : l.all Tok.may = false ∨ 1048576 < raw.size) :
    Calls Tryz.prog 8 #[.int .u8 (k : Int), .slice a l.length c, .string raw, .int .i64 (at_ : Int)] w fun e w' => e = .returned (.tuple #[.int .i64 0, .int .i64 (mayE k l raw.size)]) ∧ Fr [] w w' := by
  have h1 : (at_ : Int) ≤ 1000000000 := by omega
  have HA := Lib.hid (may_all a c l w hs (by omega) hok)
  have h3 : (k : Int) ≤ 2 := by omega
  have h4 : ((k : Int) != 0) = true := by rw [bne_iff_ne]; omega
  have h5 : ((k : Int) == 0) = false := by rw [beq_eq_false_iff_ne]; omega
  obtain ⟨y, hy⟩ : ∃ y, l.all Tok.may = y := ⟨_, rfl⟩
  rw [hy] at HA hm
  cases y with
  | false =>
    have HE := Lib.hid (show mayE k l raw.size = 2 by unfold mayE; rw [if_pos (.inr ⟨by omega, hy⟩)])
    clear hs hl hok hm hat hk hy
    go_enter Tryz.func8, Tryz.ntmps8
    go_wp2_with fail
    refine HA.out.mono ?_
    rintro e w1 ⟨rfl, f1⟩
    have F1 := Lib.hid f1
    clear f1
    go_wp2_with fail
    go_ret2
    exact ⟨by rw [HE.out]; rfl, F1.out⟩
  | true =>
    have hr : 1048576 < raw.size := by rcases hm with h | h; cases h; exact h
    have hri : 1048576 < (raw.size : Int) := by omega
    have HE := Lib.hid (show mayE k l raw.size = 5 by unfold mayE; rw [if_neg (by rintro (h | ⟨_, h⟩); omega; rw [hy] at h; cases h), if_pos hr])
    clear hs hl hok hm hat hk hy hr
    go_enter Tryz.func8, Tryz.ntmps8
    go_wp2_with fail
    refine HA.out.mono ?_
    rintro e w1 ⟨rfl, f1⟩
    have F1 := Lib.hid f1
    clear f1
    go_wp2_with fail
    go_ret2
    exact ⟨by rw [HE.out]; rfl, F1.out⟩
end Go.Proofs.YtciejmlhdmjajaaGreat

