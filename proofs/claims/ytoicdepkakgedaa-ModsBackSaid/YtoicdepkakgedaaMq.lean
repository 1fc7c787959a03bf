/- Two pages of one size: what 'pages' answers. -/
import Derived.Test.YtoicdepkakgedaaMr
namespace Go.Proofs.Ytoicdepkakgedaa
open Go.RowKit
set_option linter.unusedVariables false
set_option linter.unusedSimpArgs false

/-- A page of n bytes that begins with s. -/
def pgS (n : Nat) (c : UInt8) (s : ByteArray) : ByteArray := ⟨(s.data.toList.take n ++ (List.replicate n c).drop s.size).toArray⟩
theorem pgS_size (n : Nat) (c : UInt8) (s : ByteArray) : (pgS n c s).size = n := by
  unfold pgS ByteArray.size
  simp only [List.size_toArray, List.length_append, List.length_take, List.length_drop, List.length_replicate, Array.length_toList]
  omega
def pgN (z : Nat) : Nat := 1024 * 2 ^ (z % 5)
theorem pgN_page (z : Nat) : pageB (pgN z) = true ∧ pgN z ≤ 16384 ∧ 1024 ≤ pgN z := by
  unfold pgN
  rcases (show z % 5 = 0 ∨ z % 5 = 1 ∨ z % 5 = 2 ∨ z % 5 = 3 ∨ z % 5 = 4 by omega) with h | h | h | h | h <;> rw [h] <;> decide

/-- 'copy(b, s)': as many of the text's bytes as there is room for. -/
theorem Bb.copyMin {P : Program} {w : World} {g : Nat} {t : TypeId} {L : List UInt8} (h : Bb w g t L) (dT sT ty elem : TypeId) (n dCap : Nat) (s : ByteArray)
    (hu : P.underlying dT = some (.slice elem)) (hs : (P.info? elem).map (·.size) = some 1) (hn : n = L.length) :
    ∃ W, (Builtin.copy_ #[dT, sT] ty #[.slice (some ⟨g, 0, none⟩) n dCap, .string s]).run P w = .ok (goInt (min s.size n)) W ∧ Bb W g t (s.data.toList.take L.length ++ L.drop s.size) ∧ Fr [g] w W := by
  subst hn
  obtain ⟨tail, fz, h1, h2⟩ := h
  have hL : (Lib.byteCells L).length = L.length := Lib.byteCells_length L
  have hlen : ((Lib.byteCells s.data.toList).take (min s.size L.length)).length = min s.size L.length := by rw [List.length_take, Lib.byteCells_length, ← Lib.size_eq]; omega
  have hst := run_storeCells_ahead P g 0 t fz ((Lib.byteCells s.data.toList).take (min s.size L.length)) 0 _ w h1 (by rcases h2 with h | h; exact .inl h; right; rw [hlen]; omega) (by rw [hlen]; simp [hL]; omega) (fun v hv => Lib.byteCells_one _ v (List.mem_of_mem_take hv))
  rw [hlen] at hst
  simp only [Nat.add_zero, Nat.zero_add, List.take_zero, List.nil_append] at hst
  refine ⟨w.setRow g ((Lib.byteCells s.data.toList).take (min s.size L.length) ++ (Lib.byteCells L ++ tail).toArray.toList.drop (min s.size L.length)).toArray, ?_, ⟨tail, fz, ?_, ?_⟩, ?_⟩
  · have htk : List.take (min s.size L.length) (List.map (fun b : UInt8 => Value.int IntKind.u8 (b.toNat : Int)) s.data.toList) = (Lib.byteCells s.data.toList).take (min s.size L.length) := rfl
    have hm : Nat.min s.size L.length = min s.size L.length := rfl
    cases hq : P.info? elem with
    | none => simp [hq] at hs
    | some i =>
      simp [Builtin.copy_, run_underlying hu, Builtin.lenOf, Builtin.firstCells, sizeOf, typeInfo, hq, hm]
      rw [htk, hst]
      simp [Result.andThen]
      congr 1
      omega
  · rw [setRow_heap _ _ _ _ _ _ h1]
    congr 2
    apply Array.ext'
    simp only [Lib.byteCells, List.map_append, List.map_take, List.map_drop]
    by_cases hc : s.size ≤ L.length
    · rw [Nat.min_eq_left hc, List.drop_append_of_le_length (by simpa using hc), List.take_of_length_le (by simp), List.take_of_length_le (by simpa using hc)]
      simp
    · have hc' : L.length ≤ s.size := by omega
      rw [Nat.min_eq_right hc', List.drop_append_of_le_length (by simp), List.drop_of_length_le (by simp), List.drop_of_length_le (i := s.size) (by simpa using hc')]
      simp
  · rcases h2 with h | h
    · exact .inl h
    · right; simp; omega
  · exact ⟨rfl, rfl, rfl, by simp [World.setRow], fun k hk hl => setRow_other w g k _ (by simp at hl; omega)⟩

set_option maxRecDepth 2000000 in
set_option maxHeartbeats 3200000 in
theorem pages_any (s t : ByteArray) (z : Nat) (c : UInt8) (w : World) (hz : z < 256) : Calls Try.prog 24 #[.string s, .string t, .int .u8 (z : Int), .int .u8 (c.toNat : Int)] w fun e w' => e = .returned (.tuple #[.string (pgS (pgN z) c s), .string (pgS (pgN z) c t)]) ∧ Fr [] w w' := by
  obtain ⟨q, hq⟩ : ∃ q, z % 5 = q := ⟨_, rfl⟩
  have hq5 : q < 5 := by omega
  have hzq : (z : Int) % 5 = (q : Int) := by omega
  obtain ⟨n, hn⟩ : ∃ n, pgN z = n := ⟨_, rfl⟩
  have hnq : n = 1024 * 2 ^ q := by rw [← hn]; unfold pgN; rw [hq]
  have hnle : n ≤ 16384 := by rw [← hn]; exact (pgN_page z).2.1
  rw [hn]
  have hbl := Lib.hid (fun W => blank_any n c W (by omega))
  have hcv0 : ∀ W : World, ∃ W1 cap, (convert 9 60 (.string (blankS n c))).run Try.prog W = .ok (.slice (some ⟨W.heap.size, 0, none⟩) n cap) W1 ∧ Bb W1 W.heap.size 5 (List.replicate n c) ∧ Fr [] W W1 := fun W => by
    obtain ⟨W1, cap, k1, _, k3, k4⟩ := text_bytes (P := Try.prog) W 9 60 5 (blankS n c) Try.underlying9 rfl Try.underlying60 Try.underlying5
    rw [blankS_size] at k1
    exact ⟨W1, cap, k1, k3, k4⟩
  have hcv := Lib.hid hcv0
  clear hcv0
  have HN := Lib.hid (And.intro hnq hnle)
  have h40 : (1024 : Int) * 2 ^ q = (n : Int) := by rw [hnq]; simp
  have hnI : (n : Int) ≤ 16384 := by omega
  clear hq hn hnq hnle hz
  rcases (show q = 0 ∨ q = 1 ∨ q = 2 ∨ q = 3 ∨ q = 4 by omega) with rfl | rfl | rfl | rfl | rfl
  all_goals
    simp only [Int.reducePow, Int.reduceMul] at h40
    go_enter Try.func24, Try.ntmps24
    go_wp2_with fail
    refine (hbl.out _).mono ?_
    rintro e w1 ⟨rfl, f1⟩
    obtain ⟨W1, cap1, k1, b1, g1⟩ := hcv.out w1
    have H1 := Lib.hid (And.intro f1 (And.intro b1 g1))
    clear f1 b1 g1
    go_wp2_with fail
    clear k1
    refine (hbl.out _).mono ?_
    rintro e w2 ⟨rfl, f2⟩
    obtain ⟨W2, cap2, k2, b2, g2⟩ := hcv.out w2
    have H2 := Lib.hid (And.intro f2 (And.intro b2 g2))
    have hne : w1.heap.size ≠ w2.heap.size := by have := lt_of H1.out.2.1.choose_spec.choose_spec.1; have := f2.size; omega
    have hb1 := ((H1.out.2.1).to f2 (by simp)).to g2 (by simp)
    obtain ⟨W3, cp1, B3, F3⟩ := hb1.copyMin (P := Try.prog) 60 9 3 5 n cap1 s Try.underlying60 u8size (by simp)
    have hb2 := b2.to F3 (by simpa using hne.symm)
    obtain ⟨W4, cp2, B4, F4⟩ := hb2.copyMin (P := Try.prog) 60 9 3 5 n cap2 t Try.underlying60 u8size (by simp)
    have B3' := B3.to F4 (by simpa using hne)
    have eS : (⟨(s.data.toList.take (List.replicate n c).length ++ (List.replicate n c).drop s.size).toArray⟩ : ByteArray) = pgS n c s := by rw [List.length_replicate]; rfl
    have eT : (⟨(t.data.toList.take (List.replicate n c).length ++ (List.replicate n c).drop t.size).toArray⟩ : ByteArray) = pgS n c t := by rw [List.length_replicate]; rfl
    have lS := pgS_size n c s
    have lT := pgS_size n c t
    have t1 : ∀ m, (convert 60 9 (.slice (some ⟨w1.heap.size, 0, none⟩) n cap1)).run Try.prog (W4.drewN m) = .ok (.string (pgS n c s)) (W4.drewN m) := fun m => by
      have := (B3'.to (Fr.drewN [] W4 m) (by simp)).text (P := Try.prog) 60 9 Try.underlying60 Try.underlying5 Try.underlying9 n cap1 (by have h := congrArg ByteArray.size eS; rw [lS] at h; exact h.symm)
      rw [eS] at this; exact this
    have t2 : ∀ m, (convert 60 9 (.slice (some ⟨w2.heap.size, 0, none⟩) n cap2)).run Try.prog (W4.drewN m) = .ok (.string (pgS n c t)) (W4.drewN m) := fun m => by
      have := (B4.to (Fr.drewN [] W4 m) (by simp)).text (P := Try.prog) 60 9 Try.underlying60 Try.underlying5 Try.underlying9 n cap2 (by have h := congrArg ByteArray.size eT; rw [lT] at h; exact h.symm)
      rw [eT] at this; exact this
    have HT := Lib.hid (And.intro t1 t2)
    have hbelow : Below w.heap.size w W4 := by
      have q1 := g2.out (f2.out (H1.out.2.2.out H1.out.1.below (by simp)) (by simp)) (by simp)
      have e1 : w.heap.size ≤ w1.heap.size := H1.out.1.size
      have e2 : w.heap.size ≤ w2.heap.size := by have := f2.size; have := H1.out.2.2.size; omega
      exact F4.out (F3.out q1 (by simpa using e1)) (by simpa using e2)
    have HBL := Lib.hid hbelow
    have CP := Lib.hid (And.intro cp1 cp2)
    clear f2 b2 g2 hne hb1 cp1 B3 F3 hb2 cp2 B4 F4 B3' eS eT lS lT t1 t2 hbelow
    go_wp2_with (first | (refine Lib.wpList_copy_run (o := ⟨some 27, _, _, _, _, _⟩) W2 rfl (.tmp 25) (.tmp 26) 60 9 rfl _ _ rfl rfl CP.out.1 ?_) | (refine Lib.wpList_copy_run (o := ⟨some 30, _, _, _, _, _⟩) W3 rfl (.tmp 28) (.tmp 29) 60 9 rfl _ _ rfl rfl CP.out.2 ?_))
    clear k2
    obtain ⟨t1, t2⟩ := HT.out
    go_quiet (fail)
    clear t1 t2
    go_wp2_with fail
    go_ret2
    exact ⟨rfl, Fr.of_below ((Fr.drewN [] W4 nq).out HBL.out (by simp))⟩
end Go.Proofs.Ytoicdepkakgedaa
