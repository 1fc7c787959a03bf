/- PackTells: its walk. platenref13: the best codes. -/
import Derived.Test.YtciejmlhdmjajaaKFc
import Derived.Test.YtciejmlhdmjajaaKQi
namespace Go.Proofs.Ytciejmlhdmjajaa
open Go.RowKit
set_option linter.unusedVariables false
set_option linter.unusedSimpArgs false

/-- The document's Lens. -/
theorem refLens_any (a : Option Addr) (c : Nat) (l : List Int) (limit : Int) (w : World) (hs : SlOf (Zn .i64) 1 w a l) (hl : l.length ≤ 9223372036854775807) (hg0 : -9223372036854775808 ≤ limit) (hg1 : limit ≤ 9223372036854775807) :
    Calls Try.prog 30 #[.slice a l.length c, .int .i64 limit] w fun e w' => Fr [] w w' ∧ (badP l limit ∧ e = .returned (.tuple #[.slice none 0 0, .int .i64 2]) ∨ ¬ badP l limit ∧ ∃ gl, e = .returned (.tuple #[.slice (some ⟨gl, 0, none⟩) l.length l.length, .int .i64 0]) ∧ Nrow w' gl 5 .u8 l.length (lenS l limit.toNat)) := by
  by_cases h1 : 320 < l.length ∨ limit < 1 ∨ 15 < limit
  · have hb : badP l limit := by
      rcases h1 with h | h | h
      · exact .inl (.inl h)
      · exact .inr (.inl h)
      · exact .inr (.inr (.inl h))
    exact (refLens_a a c l limit w hl hg0 hg1 h1).mono fun e w' ⟨h2, h3⟩ => ⟨by rw [h3]; exact Fr.refl _ _, .inl ⟨hb, h2⟩⟩
  · by_cases h2 : badC l
    · exact (refLens_b a c l limit w hs (by omega) (by omega) (by omega) h2).mono fun e w' ⟨h3, h4⟩ => ⟨by rw [h4]; exact Fr.refl _ _, .inl ⟨.inl h2, h3⟩⟩
    · by_cases h3 : limit < (needN ((sortC l).length : Int) : Int)
      · exact (refLens_c a c l limit w hs (by omega) h2 (by omega) (by omega) h3).mono fun e w' ⟨h4, h5⟩ => ⟨h5, .inl ⟨.inr (.inr (.inr h3)), h4⟩⟩
      · have hb : ¬ badP l limit := by
          rintro (h | h | h | h)
          · exact h2 h
          · omega
          · omega
          · exact h3 h
        rcases (show (sortC l).length = 0 ∨ (sortC l).length = 1 ∨ 2 ≤ (sortC l).length by omega) with h | h | h
        · exact (refLens_0 a c l limit w hs (by omega) h2 (by omega) (by omega) (by omega) h).mono fun e w' ⟨gl, k1, k2, k3⟩ => ⟨k3, .inr ⟨hb, gl, k1, k2⟩⟩
        · exact (refLens_1 a c l limit w hs (by omega) h2 (by omega) (by omega) (by omega) h).mono fun e w' ⟨gl, k1, k2, k3⟩ => ⟨k3, .inr ⟨hb, gl, k1, k2⟩⟩
        · exact (refLens_n a c l limit w hs (by omega) h2 (by omega) (by omega) (by omega) h).mono fun e w' ⟨gl, k1, k2, k3⟩ => ⟨k3, .inr ⟨hb, gl, k1, k2⟩⟩
end Go.Proofs.Ytciejmlhdmjajaa
namespace Go.Proofs.Ytciejmlhdmjajaa
open Go.RowKit
set_option linter.unusedVariables false
set_option linter.unusedSimpArgs false

theorem ref_few (g n cp M : Nat) (T : TypeId) (F : Nat → Nat) (w : World) (hN : Nrow w g T .i64 n F) (hn : n ≤ 320) (hF : ∀ i, i < n → F i ≤ 1073741824) (h1 : 1 ≤ M) (h2 : M ≤ 15) (h4 : ∀ k : Nat, k ≤ n → needN (k : Int) ≤ M) :
    Calls Try.prog 30 #[.slice (some ⟨g, 0, none⟩) n cp, .int .i64 (M : Int)] w fun e w' => ∃ gl, e = .returned (.tuple #[.slice (some ⟨gl, 0, none⟩) n n, .int .i64 0]) ∧ Nrow w' gl 5 .u8 n (lenS (ctL F n) M) ∧ Fr [] w w' := by
  have h := refLens_any (some ⟨g, 0, none⟩) cp (ctL F n) (M : Int) w (sl_zrow hN) (by rw [ctL_len]; omega) (by omega) (by omega)
  rw [ctL_len, Int.toNat_natCast] at h
  refine h.mono fun e w' ⟨k1, k2⟩ => ?_
  rcases k2 with ⟨k2, k3⟩ | ⟨k2, gl, k3, k4⟩
  · exfalso
    have h5 := (ctL_bad hn hF h1 h2).1 k2
    have h6 := h4 _ (posN_le F n)
    omega
  · exact ⟨gl, k3, k4, k1⟩
theorem blk_kind {w : World} {g n : Nat} {F : Nat → Nat} {a b : Value} (h : Nrow w g 5 .u8 n F) (h2 : w.heap[g]? = some (.cells #[a, b] 27 (0, 0))) : False := by
  unfold Nrow at h
  rw [h2] at h
  injection h with h
  injection h with _ h
  exact absurd h (by decide)
def Two286 (w : World) (v5 v6 : Value) (wx : World) : Prop :=
  ∃ g1 g2, v5 = .slice (some ⟨g1, 0, none⟩) 286 286 ∧ v6 = .slice (some ⟨g2, 0, none⟩) 30 30 ∧ g1 ≠ g2 ∧ w.heap.size ≤ g1 ∧ w.heap.size ≤ g2 ∧ Nrow wx g1 3 .i64 286 (fun _ => 0) ∧ Nrow wx g2 3 .i64 30 (fun _ => 0) ∧ Fr [] w wx
theorem two286_made (w : World) (m n : Nat) : Nrow ((w.alloc (.cells (madeCells #[.int .i64 0] m) 3)).alloc (.cells (madeCells #[.int .i64 0] n) 3)).drew w.heap.size 3 .i64 m (fun _ => 0) ∧ Nrow ((w.alloc (.cells (madeCells #[.int .i64 0] m) 3)).alloc (.cells (madeCells #[.int .i64 0] n) 3)).drew (w.heap.size + 1) 3 .i64 n (fun _ => 0) ∧ Fr [] w ((w.alloc (.cells (madeCells #[.int .i64 0] m) 3)).alloc (.cells (madeCells #[.int .i64 0] n) 3)).drew := by
  have h1 := made_nats w m
  have h2 := made_nats (w.alloc (.cells (madeCells #[.int .i64 0] m) 3)) n
  rw [show (w.alloc (.cells (madeCells #[.int .i64 0] m) 3)).heap.size = w.heap.size + 1 from Array.size_push _] at h2
  have hA := Fr.alloc [] (w.alloc (.cells (madeCells #[.int .i64 0] m) 3)) (.cells (madeCells #[.int .i64 0] n) 3)
  exact ⟨(h1.to hA (by simp)).to (Fr.drew (Fr.refl [] _)) (by simp), h2.to (Fr.drew (Fr.refl [] _)) (by simp), ((Fr.alloc [] _ _).trans hA).drew⟩
set_option maxRecDepth 100000 in
set_option maxHeartbeats 6400000 in
theorem refBest_no (a : Option Addr) (c : Nat) (l : List Tok) (w : World) (hs : SlOf Tok.enc Tok.sz w a l) (hl : l.length ≤ 1000000) (hok : ∀ t ∈ l, t.ok) (hmay : l.all Tok.may = false) :
    Calls Try.prog 11 #[.slice a l.length c] w fun e w' => e = .returned (.tuple #[.agg #[.slice none 0 0, .slice none 0 0], .int .i64 2]) ∧ Fr [] w w' := by
  have HB := Lib.hid (And.intro hs (And.intro hok hmay))
  have hli : (l.length : Int) ≤ 1000000 := by omega
  clear hs hl hok hmay
  go_enter Try.func11, Try.ntmps11
  go_wp2_with fail
  go_loopw [4] (fun v4 wr => ∃ k : Nat, k ≤ l.length ∧ v4 = .int .i64 (k : Int) ∧ Hid (∀ t ∈ l.take k, t.may = true) ∧ Fr [] (w.alloc (.cells #[.slice none 0 0, .slice none 0 0] 27)) wr) (fun v4 _ => l.length - (intOf v4).toNat)
  case atStart => exact ⟨0, by omega, rfl, Lib.hid (by simp), Fr.refl _ _⟩
  case round =>
    obtain ⟨k, hk, rfl, hp, hf⟩ := hrel
    by_cases hlt : k < l.length
    · have hki : (k : Int) < (l.length : Int) := by omega
      obtain ⟨m, hm⟩ : ∃ m, l[k]? = some m := ⟨l[k], List.getElem?_eq_getElem hlt⟩
      obtain ⟨b, o, rfl, hbl, hcell⟩ := (HB.out.1.fr0 ((Fr.alloc _ _ _).trans hf)) (by intro h; rw [h] at hlt; simp at hlt)
      have k0 := hcell k m hm 0 (.int .u8 (m.lit : Int)) rfl
      have k1 := hcell k m hm 1 (.int .i64 m.len) rfl
      have k2 := hcell k m hm 2 (.int .i64 m.dist) rfl
      simp only [Nat.add_zero, Tok.sz] at k0 k1 k2
      rw [← Nat.add_assoc] at k1 k2
      have HM := Lib.hid (fun W => refMay_tok m W (HB.out.2.1 m (List.mem_of_getElem? hm)))
      have HT := Lib.hid (show l.take (k + 1) = l.take k ++ [m] by rw [List.take_add_one, hm]; rfl)
      unfold Tok.val at HM
      obtain ⟨y, hy⟩ : ∃ y, m.may = y := ⟨_, rfl⟩
      rw [hy] at HM
      have HY := Lib.hid hy
      have hre := hf.blk (alloc_last w (.cells #[.slice none 0 0, .slice none 0 0] 27)) (by simp)
      have HF := Lib.hid (And.intro hf hre)
      clear hcell hm hf hy hre
      cases y with
      | true =>
        go_wp2_with fail
        refine (HM.out _).mono ?_
        rintro e w1 ⟨rfl, f1⟩
        have F1 := Lib.hid (HF.out.1.trans f1)
        clear f1 k0 k1 k2
        go_wp2_with fail
        go_roundw
        case rel => exact ⟨k + 1, by omega, by go_num, Lib.hid (by rw [HT.out]; intro t ht; rcases List.mem_append.1 ht with h | h; exact hp.out t h; simp at h; rw [h]; exact HY.out), F1.out⟩
        case measure => simp [intOf]; omega
      | false =>
        go_wp2_with fail
        refine (HM.out _).mono ?_
        rintro e w1 ⟨rfl, f1⟩
        have hre := f1.blk HF.out.2 (by simp)
        have cr0 := cell_of hre 0
        have cr1 := cell_of hre 1
        have fr0 := free_of hre 0
        have fr1 := free_of hre 1
        simp at cr0 cr1
        have F1 := Lib.hid (And.intro (HF.out.1.trans f1) hre)
        clear f1 k0 k1 k2 hre
        go_wp2_with fail
        obtain ⟨f1, hre⟩ := F1.out
        have fs1 := Fr.setCell w1 w.heap.size 0 (.slice none 0 0)
        have s1 := set_of hre 0 (.slice none 0 0)
        have fs2 := Fr.setCell (w1.setCell ⟨w.heap.size, 0, none⟩ (.slice none 0 0)) w.heap.size 1 (.slice none 0 0)
        have s2 := set_of s1 1 (.slice none 0 0)
        have e1 : ((#[Value.slice none 0 0, Value.slice none 0 0] : Array Value).setIfInBounds 0 (.slice none 0 0)).setIfInBounds 1 (.slice none 0 0) = #[.slice none 0 0, .slice none 0 0] := by simp
        rw [e1] at s2
        (try simp only [Exit.inBlock, Exit.then])
        refine bodyPost_ret (results_row_tmp rfl _ _ w.heap.size 27 _ (0, 0) _ rfl s2 Try.underlying27 rfl (by kernel_rfl)) rfl ?_
        exact ⟨rfl, (fs1.trans fs2).outL ((Fr.alloc _ _ _).trans f1) (by simp)⟩
    · exfalso
      have hke : k = l.length := by omega
      subst hke
      have h1 : l.all Tok.may = true := by rw [List.all_eq_true]; have := hp.out; rw [List.take_of_length_le (Nat.le_refl _)] at this; exact this
      rw [HB.out.2.2] at h1
      cases h1
set_option maxRecDepth 100000 in
set_option maxHeartbeats 6400000 in
theorem refBest_ok (a : Option Addr) (c : Nat) (l : List Tok) (w : World) (hs : SlOf Tok.enc Tok.sz w a l) (hl : l.length ≤ 100000) (hok : ∀ t ∈ l, t.ok) (hmay : ∀ t ∈ l, t.may = true) :
    Calls Try.prog 11 #[.slice a l.length c] w fun e w' => ∃ g1 g2, e = .returned (.tuple #[.agg #[.slice (some ⟨g1, 0, none⟩) 286 286, .slice (some ⟨g2, 0, none⟩) 30 30], .int .i64 0]) ∧ Nrow w' g1 5 .u8 286 (bestF false 286 (symsL l)) ∧ Nrow w' g2 5 .u8 30 (bestF true 30 (symsL l)) ∧ Fr [] w w' := by
  have HB := Lib.hid (And.intro hs (And.intro hok (And.intro hmay hl)))
  have hli : (l.length : Int) ≤ 100000 := by omega
  clear hs hl hok hmay
  go_enter Try.func11, Try.ntmps11
  go_wp2_with fail
  go_loopw [4] (fun v4 wr => ∃ k : Nat, k ≤ l.length ∧ v4 = .int .i64 (k : Int) ∧ Fr [] (w.alloc (.cells #[.slice none 0 0, .slice none 0 0] 27)) wr) (fun v4 _ => l.length - (intOf v4).toNat)
  case atStart => exact ⟨0, by omega, rfl, Fr.refl _ _⟩
  case round =>
    obtain ⟨k, hk, rfl, hf⟩ := hrel
    by_cases hlt : k < l.length
    · have hki : (k : Int) < (l.length : Int) := by omega
      obtain ⟨m, hm⟩ : ∃ m, l[k]? = some m := ⟨l[k], List.getElem?_eq_getElem hlt⟩
      obtain ⟨b, o, rfl, hbl, hcell⟩ := (HB.out.1.fr0 ((Fr.alloc _ _ _).trans hf)) (by intro h; rw [h] at hlt; simp at hlt)
      have k0 := hcell k m hm 0 (.int .u8 (m.lit : Int)) rfl
      have k1 := hcell k m hm 1 (.int .i64 m.len) rfl
      have k2 := hcell k m hm 2 (.int .i64 m.dist) rfl
      simp only [Nat.add_zero, Tok.sz] at k0 k1 k2
      rw [← Nat.add_assoc] at k1 k2
      have HM := Lib.hid (fun W => refMay_tok m W (HB.out.2.1 m (List.mem_of_getElem? hm)))
      have HT := Lib.hid (show l.take (k + 1) = l.take k ++ [m] by rw [List.take_add_one, hm]; rfl)
      unfold Tok.val at HM
      rw [HB.out.2.2.1 m (List.mem_of_getElem? hm)] at HM
      have hre := hf.blk (alloc_last w (.cells #[.slice none 0 0, .slice none 0 0] 27)) (by simp)
      have HF := Lib.hid (And.intro hf hre)
      clear hcell hm hf hre
      go_wp2_with fail
      refine (HM.out _).mono ?_
      rintro e w1 ⟨rfl, f1⟩
      have F1 := Lib.hid (HF.out.1.trans f1)
      clear f1 k0 k1 k2
      go_wp2_with fail
      go_roundw
      case rel => exact ⟨k + 1, by omega, by go_num, F1.out⟩
      case measure => simp [intOf]; omega
    · have hke : k = l.length := by omega
      subst hke
      have hre := hf.blk (alloc_last w (.cells #[.slice none 0 0, .slice none 0 0] 27)) (by simp)
      have HF := Lib.hid (And.intro hf hre)
      clear hf hre hlt hk
      have hmk1 : ∀ W : World, (Instr.makeSlice 63 (.int .i64 286) (.int .i64 286)).run Try.prog W = .ok (.slice (some ⟨W.heap.size, 0, none⟩) 286 286) (W.alloc (.cells (madeCells #[.int .i64 0] 286) 3)) := fun W => run_make_nats W 286 (by omega)
      have hmk2 : ∀ W : World, (Instr.makeSlice 63 (.int .i64 30) (.int .i64 30)).run Try.prog W = .ok (.slice (some ⟨W.heap.size, 0, none⟩) 30 30) (W.alloc (.cells (madeCells #[.int .i64 0] 30) 3)) := fun W => run_make_nats W 30 (by omega)
      go_upto_region 6 with fail
      go_cut [5, 6] from 26 to 28 (fun v5 v6 wx => Two286 wr v5 v6 wx)
      case first =>
        go_wp2_with fail
        go_region
        all_goals go_wp2_with fail
        all_goals go_meet
        case rel => have h := two286_made wr 286 30; exact ⟨_, _, rfl, rfl, by omega, by omega, by omega, h⟩
        case rel => have h := two286_made wr 30 286; exact ⟨_, _, rfl, rfl, by omega, by omega, by omega, h.2.1, h.1, h.2.2⟩
      case rest =>
      obtain ⟨g1, g2, rfl, rfl, hne, hg1, hg2, hN1, hN2, hfc⟩ := hcut
      have hre := hfc.blk HF.out.2 (by simp)
      have hsz := lt_of HF.out.2
      have HN := Lib.hid (And.intro hN1 (And.intro hN2 (And.intro ((HF.out.1.trans hfc)) (And.intro hne (And.intro (show w.heap.size < g1 by omega) (And.intro (show w.heap.size < g2 by omega) hre))))))
      clear hN1 hN2 hfc hne hg1 hg2 hre hmk1 hmk2 hsz
      go_wp2_with fail
      refine (refSyms_ok a c l _ (HB.out.1.fr0 ((Fr.alloc _ _ _).trans HN.out.2.2.1)) HB.out.2.2.2 HB.out.2.1 HB.out.2.2.1).mono ?_
      rintro e w3 ⟨ay, cs, rfl, hss, f3, hbs⟩
      have hso := symsL_ok HB.out.2.2.1 fun t ht => (HB.out.2.1 t ht).1
      have hsn := symsL_len l
      have hl5 := HB.out.2.2.2
      obtain ⟨L, hLe⟩ : ∃ L, symsL l = L := ⟨_, rfl⟩
      rw [hLe] at hss hso hsn ⊢
      have hLi : (L.length : Int) ≤ 200001 := by omega
      obtain ⟨n1, n2, n3, n4, n5, n6, n7⟩ := HN.out
      have S0 := Lib.hid (And.intro hss (And.intro (n1.to f3 (by simp)) (And.intro (n2.to f3 (by simp)) (And.intro (f3.blk n7 (by simp)) (((Fr.alloc _ _ _).trans n3).trans f3 : Fr [] w w3)))))
      have l1 := lt_of n1
      have l2 := lt_of n2
      have HG := Lib.hid (And.intro hso (And.intro n4 (And.intro n5 (And.intro n6 (show ∀ b, ay = some b → b.block ≠ g1 ∧ b.block ≠ g2 from fun b hb => by have := hbs b hb; omega)))))
      clear n1 n2 n3 n4 n5 n6 n7 l1 l2 hss f3 hbs hso hsn hl5
      go_wp2_with fail
      go_loopw [8] (fun v8 wr => ∃ k : Nat, k ≤ L.length ∧ v8 = .int .i64 (k : Int) ∧ SlOf SyR 4 wr ay L ∧ Nrow wr g1 3 .i64 286 (fun i => cntSy false i (L.take k)) ∧ Nrow wr g2 3 .i64 30 (fun i => cntSy true i (L.take k)) ∧ wr.heap[w.heap.size]? = some (.cells #[.slice none 0 0, .slice none 0 0] 27 (0, 0)) ∧ Fr [] w wr) (fun v8 _ => L.length - (intOf v8).toNat)
      case atStart => exact ⟨0, by omega, rfl, S0.out⟩
      case round =>
        obtain ⟨k, hk, rfl, hss, h1, h2, hre, hfw⟩ := hrel
        by_cases hlt : k < L.length
        · have hki : (k : Int) < (L.length : Int) := by omega
          obtain ⟨s, hsk⟩ : ∃ s, L[k]? = some s := ⟨L[k], List.getElem?_eq_getElem hlt⟩
          have hsok := HG.out.1 s (List.mem_of_getElem? hsk)
          obtain ⟨b, o, hab, hbl, hcell⟩ := hss (by intro h; rw [h] at hlt; simp at hlt)
          have hbg := HG.out.2.2.2.2 _ hab
          have HT : ∀ d i, cntSy d i (L.take (k + 1)) = cntSy d i (L.take k) + if s.dist = d ∧ s.n = i then 1 else 0 := fun d i => by
            rw [List.take_add_one, hsk, cntSy_append]
            rfl
          obtain ⟨sd, sn, se, sb⟩ := s
          have k0 := hcell k _ hsk 0 (.bool sd) rfl
          have k1 := hcell k _ hsk 1 (.int .i64 (sn : Int)) rfl
          simp only [Nat.add_zero] at k0
          rw [← Nat.add_assoc] at k1
          subst hab
          have HW := Lib.hid (And.intro hss (And.intro h1 (And.intro h2 (And.intro hre hfw))))
          have hpl : (L.take k).length ≤ 200001 := by rw [List.length_take]; omega
          cases sd
          · have hsn : sn < 286 := by have := hsok.1; simpa using this
            have hsni : (sn : Int) < 286 := by omega
            have c1 := h1.cell sn hsn
            have c2 := free_of h1 sn
            have hT := cntSy_le false sn (L.take k)
            obtain ⟨T, hT2⟩ : ∃ T, cntSy false sn (L.take k) = T := ⟨_, rfl⟩
            have HE := Lib.hid (show (∀ i, cntSy false i (L.take (k + 1)) = if i = sn then T + 1 else cntSy false i (L.take k)) ∧ ∀ i, cntSy true i (L.take (k + 1)) = cntSy true i (L.take k) by
              refine ⟨fun i => ?_, fun i => ?_⟩
              · rw [HT]
                by_cases h : i = sn
                · subst h; simp [hT2]
                · have h' : ¬ sn = i := fun e => h e.symm
                  simp [h, h']
              · rw [HT]; simp)
            rw [hT2] at hT c1
            have hTi : (T : Int) ≤ 200001 := by omega
            clear hcell hsk hsok hbg HT hss h1 h2 hre hfw hpl hT hT2 hsn
            go_wp2_with fail
            obtain ⟨hss, h1, h2, hre, hfw⟩ := HW.out
            obtain ⟨_, q1, q2, q3, q4⟩ := HG.out
            have hbg := q4 _ rfl
            have fs := Fr.setCell wr g1 sn (.int .i64 ((T : Int) + 1))
            have s1 := h1.set_ (G := fun i => cntSy false i (L.take (k + 1))) sn (T + 1) (fun j hj => HE.out.1 j)
            refine ⟨⟨k + 1, by omega, by go_num, hss.fr fs (fun x hx hm => by cases hx; simp at hm; simp only at hbg; omega), by simpa using s1, (h2.to fs (by simp; omega)).congr fun j hj => HE.out.2 j, fs.blk hre (by simp; omega), fs.outL hfw (by simp; omega)⟩, by simp [intOf]; omega⟩
          · have hsn : sn < 30 := by have := hsok.1; simpa using this
            have hsni : (sn : Int) < 30 := by omega
            have c1 := h2.cell sn hsn
            have c2 := free_of h2 sn
            have hT := cntSy_le true sn (L.take k)
            obtain ⟨T, hT2⟩ : ∃ T, cntSy true sn (L.take k) = T := ⟨_, rfl⟩
            have HE := Lib.hid (show (∀ i, cntSy true i (L.take (k + 1)) = if i = sn then T + 1 else cntSy true i (L.take k)) ∧ ∀ i, cntSy false i (L.take (k + 1)) = cntSy false i (L.take k) by
              refine ⟨fun i => ?_, fun i => ?_⟩
              · rw [HT]
                by_cases h : i = sn
                · subst h; simp [hT2]
                · have h' : ¬ sn = i := fun e => h e.symm
                  simp [h, h']
              · rw [HT]; simp)
            rw [hT2] at hT c1
            have hTi : (T : Int) ≤ 200001 := by omega
            clear hcell hsk hsok hbg HT hss h1 h2 hre hfw hpl hT hT2 hsn
            go_wp2_with fail
            obtain ⟨hss, h1, h2, hre, hfw⟩ := HW.out
            obtain ⟨_, q1, q2, q3, q4⟩ := HG.out
            have hbg := q4 _ rfl
            have fs := Fr.setCell wr g2 sn (.int .i64 ((T : Int) + 1))
            have s1 := h2.set_ (G := fun i => cntSy true i (L.take (k + 1))) sn (T + 1) (fun j hj => HE.out.1 j)
            refine ⟨⟨k + 1, by omega, by go_num, hss.fr fs (fun x hx hm => by cases hx; simp at hm; simp only at hbg; omega), (h1.to fs (by simp; omega)).congr fun j hj => HE.out.2 j, by simpa using s1, fs.blk hre (by simp; omega), fs.outL hfw (by simp; omega)⟩, by simp [intOf]; omega⟩
        · have hke : k = L.length := by omega
          subst hke
          have hle : L.take L.length = L := List.take_of_length_le (Nat.le_refl _)
          rw [hle] at h1 h2
          have hcl : ∀ d, (i : Nat) → cntSy d i L ≤ 1073741824 := fun d i => by have := cntSy_le d i L; omega
          have HX := Lib.hid (And.intro h1 (And.intro h2 (And.intro hre hfw)))
          clear hss h1 h2 hre hfw hle hlt hk
          go_wp2_with fail
          refine (ref_few g1 286 286 15 3 _ _ HX.out.1 (by omega) (fun i _ => hcl false i) (by omega) (by omega) (fun k hk => by have := needN_small k (by omega); omega)).mono ?_
          rintro e w5 ⟨ga, rfl, ra, f5⟩
          have F5 := Lib.hid (And.intro ra f5)
          clear ra f5
          go_wp2_with fail
          refine (ref_few g2 30 30 15 3 _ _ (HX.out.2.1.to F5.out.2 (by simp)) (by omega) (fun i _ => hcl true i) (by omega) (by omega) (fun k hk => by have := needN_small k (by omega); omega)).mono ?_
          rintro e w6 ⟨gb, rfl, rb, f6⟩
          have hre := f6.blk (F5.out.2.blk HX.out.2.2.1 (by simp)) (by simp)
          have cr0 := cell_of hre 0
          have cr1 := cell_of hre 1
          have fr0 := free_of hre 0
          have fr1 := free_of hre 1
          simp at cr0 cr1
          have F6 := Lib.hid (And.intro (F5.out.1.to f6 (by simp)) (And.intro rb (And.intro ((HX.out.2.2.2.trans F5.out.2).trans f6) hre)))
          clear rb f6 hre
          go_wp2_with fail
          obtain ⟨ra, rb, f6, hre⟩ := F6.out
          have hlt6 := lt_of hre
          have fs1 := Fr.setCell w6 w.heap.size 0 (.slice (some ⟨ga, 0, none⟩) 286 286)
          have s1 := set_of hre 0 (.slice (some ⟨ga, 0, none⟩) 286 286)
          have fs2 := Fr.setCell (w6.setCell ⟨w.heap.size, 0, none⟩ (.slice (some ⟨ga, 0, none⟩) 286 286)) w.heap.size 1 (.slice (some ⟨gb, 0, none⟩) 30 30)
          have s2 := set_of s1 1 (.slice (some ⟨gb, 0, none⟩) 30 30)
          have e1 : ((#[Value.slice none 0 0, Value.slice none 0 0] : Array Value).setIfInBounds 0 (.slice (some ⟨ga, 0, none⟩) 286 286)).setIfInBounds 1 (.slice (some ⟨gb, 0, none⟩) 30 30) = #[.slice (some ⟨ga, 0, none⟩) 286 286, .slice (some ⟨gb, 0, none⟩) 30 30] := by simp
          rw [e1] at s2
          (try simp only [Exit.inBlock, Exit.then])
          refine bodyPost_ret (results_row_tmp rfl _ _ w.heap.size 27 _ (0, 0) _ rfl s2 Try.underlying27 rfl (by kernel_rfl)) rfl ?_
          have hga : ga ≠ w.heap.size := fun h => by subst h; exact blk_kind ra hre
          have hgb : gb ≠ w.heap.size := fun h => by subst h; exact blk_kind rb hre
          subst hLe
          exact ⟨ga, gb, rfl, (ra.to fs1 (by simp; omega)).to fs2 (by simp; omega), (rb.to fs1 (by simp; omega)).to fs2 (by simp; omega), (fs1.trans fs2).outL f6 (by simp)⟩
end Go.Proofs.Ytciejmlhdmjajaa

