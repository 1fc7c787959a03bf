/- SameLens, Weigh; rows of lengths as lists; some answers that the document fixes (alive), of layer 6. -/
import Derived.Test.YtmajacfcfdljeaaPh
namespace Go.Proofs.Ytmajacfcfdljeaa
open Go.RowKit
set_option linter.unusedVariables false
set_option linter.unusedSimpArgs false

theorem sl_nrow {w : World} {g n : Nat} {F : Nat → Nat} (h : Nrow w g 5 .u8 n F) : SlOf U8 1 w (some ⟨g, 0, none⟩) ((List.range n).map F) := fun _ => by
  refine ⟨g, 0, rfl, lt_of h, fun i x hi j u hu => ?_⟩
  have hj : j = 0 := by
    have := (List.getElem?_eq_some_iff.1 hu).1
    simp [U8] at this
    exact this
  subst hj
  have hin : i < n := by have := (List.getElem?_eq_some_iff.1 hi).1; simpa using this
  rw [List.getElem?_map, List.getElem?_range hin] at hi
  simp at hi
  subst hi
  rw [Nat.zero_add, Nat.mul_one, Nat.add_zero, h.cell i hin, ← hu]
  rfl

theorem take_ext {l m : List Nat} {j : Nat} (h : l.take j = m.take j) {x y : Nat} (hx : l[j]? = some x) (hy : m[j]? = some y) (he : x = y) : l.take (j + 1) = m.take (j + 1) := by
  rw [List.take_add_one, List.take_add_one, h, hx, hy, he]
set_option maxRecDepth 2000000 in
set_option maxHeartbeats 3200000 in
theorem same_lens (a b : Option Addr) (c d : Nat) (l m : List Nat) (w : World) (hl : SlOf U8 1 w a l) (hm : SlOf U8 1 w b m) (hll : l.length ≤ 9223372036854775807) (hml : m.length ≤ 9223372036854775807) (h8 : ∀ x ∈ l, x < 256) (k8 : ∀ x ∈ m, x < 256) :
    Calls Try.prog 11 #[.slice a l.length c, .slice b m.length d] w fun e w' => e = .returned (.bool (decide (l = m))) ∧ Fr [] w w' := by
  have hl1 : (l.length : Int) ≤ 9223372036854775807 := by omega
  have hm1 : (m.length : Int) ≤ 9223372036854775807 := by omega
  have HS := Lib.hid (And.intro hl hm)
  have H8 := Lib.hid (And.intro h8 k8)
  by_cases hlen : l.length = m.length
  · have hne : (((l.length : Nat) : Int) != ((m.length : Nat) : Int)) = false := by rw [hlen]; simp
    have HL := Lib.hid hlen
    clear hl hm hll hml h8 k8 hlen
    go_enter Try.func11, Try.ntmps11
    go_wp2_with fail
    go_loopw [5] (fun v wr => ∃ j : Nat, v = .int .i64 (j : Int) ∧ j ≤ l.length ∧ Hid (l.take j = m.take j) ∧ Fr [] w wr) (fun v _ => l.length - (intOf v).toNat)
    case atStart => exact ⟨0, rfl, Nat.zero_le _, Lib.hid rfl, Fr.refl _ _⟩
    case round =>
      obtain ⟨j, rfl, hj, hT, hf⟩ := hrel
      by_cases hjl : j < l.length
      · have hji : (j : Int) < (l.length : Int) := by omega
        have hjm : (j : Int) < (m.length : Int) := by have := HL.out; omega
        obtain ⟨x, hx⟩ : ∃ x, l[j]? = some x := ⟨l[j], List.getElem?_eq_getElem hjl⟩
        obtain ⟨y, hy⟩ : ∃ y, m[j]? = some y := ⟨m[j]'(by omega), List.getElem?_eq_getElem _⟩
        obtain ⟨g1, o1, rfl, hb1, hc1⟩ := (HS.out.1.below hf.below) (by intro h; rw [h] at hx; simp at hx)
        obtain ⟨g2, o2, rfl, hb2, hc2⟩ := (HS.out.2.below hf.below) (by intro h; rw [h] at hy; simp at hy)
        have c1 := hc1 j x hx 0 (.int .u8 (x : Int)) rfl
        have c2 := hc2 j y hy 0 (.int .u8 (y : Int)) rfl
        rw [Nat.mul_one, Nat.add_zero] at c1 c2
        have HX := Lib.hid (And.intro hx (And.intro hy hf))
        by_cases hxy : x = y
        · subst hxy
          clear hx hy hc1 hc2 hf
          go_wp2_with fail
          refine wp_region_quiet_tail 8 (by kernel_rfl) (by kernel_rfl) ?_
          simp only [List.take_succ_cons, List.take_zero, List.drop_succ_cons, List.drop_zero]
          repeat go_big_quiet_step (fail)
          refine wpQuiet_nil ?_
          go_wp2_with fail
          go_roundw
          case rel => exact ⟨j + 1, by go_num, by omega, Lib.hid (take_ext hT.out HX.out.1 HX.out.2.1 rfl), HX.out.2.2.drew⟩
          case measure => simp [intOf]; omega
        · have hne2 : ((x : Int) != (y : Int)) = true := by rw [bne_iff_ne]; omega
          have HN := Lib.hid (show ¬ l = m from fun he => by rw [he, hy] at hx; exact hxy (by simpa using hx.symm))
          clear hx hy hc1 hc2 hf hxy
          go_wp2_with fail
          refine wp_region_quiet_tail 8 (by kernel_rfl) (by kernel_rfl) ?_
          simp only [List.take_succ_cons, List.take_zero, List.drop_succ_cons, List.drop_zero]
          repeat go_big_quiet_step (fail)
          refine wpQuiet_nil ?_
          go_wp2_with fail
          go_ret
          exact ⟨by rw [decide_eq_false HN.out]; rfl, HX.out.2.2.drew⟩
      · have hje : j = l.length := by omega
        subst hje
        have HE := Lib.hid (show l = m by have := hT.out; rwa [List.take_length, HL.out, List.take_length] at this)
        have HF := Lib.hid hf
        clear hf
        go_wp2_with fail
        go_ret
        exact ⟨by rw [decide_eq_true HE.out]; rfl, HF.out⟩
  · have hne : (((l.length : Nat) : Int) != ((m.length : Nat) : Int)) = true := by rw [bne_iff_ne]; omega
    have HN := Lib.hid (show ¬ l = m from fun he => hlen (by rw [he]))
    clear hl hm hll hml h8 k8 hlen
    go_enter Try.func11, Try.ntmps11
    go_wp2_with fail
    go_ret
    exact ⟨by rw [decide_eq_false HN.out]; rfl, Fr.refl _ _⟩

/-- What lengths weigh, by counts. -/
def weighN : List Nat → List Int → Nat
  | a :: l, c :: m => a * c.toNat + weighN l m
  | _, _ => 0
theorem weigh_snoc : ∀ (l : List Nat) (m : List Int) (j : Nat) (a : Nat) (c : Int), l[j]? = some a → m[j]? = some c → weighN (l.take (j + 1)) (m.take (j + 1)) = weighN (l.take j) (m.take j) + a * c.toNat
  | [], m, j, a, c, h, _ => by simp at h
  | a0 :: l, [], j, a, c, _, h => by simp at h
  | a0 :: l, c0 :: m, 0, a, c, h, k => by simp at h k; subst h; subst k; simp [weighN]
  | a0 :: l, c0 :: m, j + 1, a, c, h, k => by
    have ih := weigh_snoc l m j a c (by simpa using h) (by simpa using k)
    rw [List.take_succ_cons, List.take_succ_cons, List.take_succ_cons, List.take_succ_cons]
    simp only [weighN] at ih ⊢
    omega
theorem weigh_min : ∀ (l : List Nat) (m : List Int), weighN (l.take (min l.length m.length)) (m.take (min l.length m.length)) = weighN l m
  | [], m => by simp [weighN]
  | a :: l, [] => by simp [weighN]
  | a :: l, c :: m => by
    have := weigh_min l m
    rw [List.length_cons, List.length_cons, Nat.succ_min_succ, List.take_succ_cons, List.take_succ_cons]
    simp only [weighN, this]
theorem weigh_le : ∀ (l : List Nat) (m : List Int) (B : Nat), (∀ x ∈ l, x < 256) → (∀ c ∈ m, c ≤ (B : Int)) → weighN l m ≤ l.length * (256 * B)
  | [], m, B, _, _ => by simp [weighN]
  | a :: l, [], B, _, _ => by simp [weighN]
  | a :: l, c :: m, B, h, k => by
    have ih := weigh_le l m B (fun x hx => h x (by simp [hx])) (fun x hx => k x (by simp [hx]))
    have h1 := h a (by simp)
    have h2 := k c (by simp)
    simp only [weighN, List.length_cons]
    have : a * c.toNat ≤ 256 * B := Nat.mul_le_mul (by omega) (by omega)
    rw [Nat.add_mul]
    omega
set_option maxRecDepth 2000000 in
set_option maxHeartbeats 3200000 in
theorem weigh_any (a b : Option Addr) (c d : Nat) (l : List Nat) (m : List Int) (w : World) (hl : SlOf U8 1 w a l) (hm : SlOf (Zn .i64) 1 w b m) (hll : l.length ≤ c) (hcap : c ≤ 9223372036854775807) (hml : m.length ≤ 9223372036854775807) (hl3 : l.length ≤ 1000) (h8 : ∀ x ∈ l, x < 256) (k8 : ∀ x ∈ m, -9223372036854775808 ≤ x ∧ x ≤ 2000000000) :
    Calls Try.prog 15 #[.slice a l.length c, .slice b m.length d] w fun e w' => e = .returned (.int .i64 (weighN l m : Nat)) ∧ Fr [] w w' := by
  obtain ⟨K, hK⟩ : ∃ K, min l.length m.length = K := ⟨_, rfl⟩
  have hmin : min (l.length : Int) (m.length : Int) = (K : Int) := by omega
  have hKc : (K : Int) ≤ (c : Int) := by omega
  have hKn : K ≤ c := by omega
  have hK1 : (K : Int) ≤ 1000 := by omega
  have hl1 : (l.length : Int) ≤ 1000 := by omega
  have hm1 : (m.length : Int) ≤ 9223372036854775807 := by omega
  have HS := Lib.hid (And.intro hl hm)
  have HK := Lib.hid (And.intro hK (And.intro h8 (And.intro k8 hcap)))
  clear hl hm hll hcap hml hl3 h8 k8 hK
  go_enter Try.func15, Try.ntmps15
  go_wp2_with fail
  go_loopw [4, 5, 6, 15] (fun v4 _ _ v15 wr => ∃ j : Nat, v15 = .int .i64 (j : Int) ∧ j ≤ K ∧ v4 = .int .i64 (weighN (l.take j) (m.take j) : Nat) ∧ wr = w) (fun _ _ _ v15 _ => K - (intOf v15).toNat)
  case atStart => exact ⟨0, rfl, Nat.zero_le _, by simp [weighN], rfl⟩
  case round =>
    obtain ⟨j, rfl, hj, rfl, hw⟩ := hrel
    replace hw := hw.symm
    subst hw
    by_cases hjK : j < K
    · have hji : (j : Int) < (K : Int) := by omega
      obtain ⟨x, hx⟩ : ∃ x, l[j]? = some x := ⟨l[j]'(by have := HK.out.1; omega), List.getElem?_eq_getElem _⟩
      obtain ⟨y, hy⟩ : ∃ y, m[j]? = some y := ⟨m[j]'(by have := HK.out.1; omega), List.getElem?_eq_getElem _⟩
      obtain ⟨g1, o1, rfl, hb1, hc1⟩ := HS.out.1 (by intro h; rw [h] at hx; simp at hx)
      obtain ⟨g2, o2, rfl, hb2, hc2⟩ := HS.out.2 (by intro h; rw [h] at hy; simp at hy)
      have c1 := hc1 j x hx 0 (.int .u8 (x : Int)) rfl
      have c2 := hc2 j y hy 0 (.int .i64 y) rfl
      rw [Nat.mul_one, Nat.add_zero] at c1 c2
      have hx8 := HK.out.2.1 x (List.mem_of_getElem? hx)
      have hy8 := HK.out.2.2.1 y (List.mem_of_getElem? hy)
      have hjm : (j : Int) < (m.length : Int) := by have := HK.out.1; omega
      have hsn := weigh_snoc l m j x y hx hy
      have hwl := weigh_le (l.take j) (m.take j) 2000000000 (fun a ha => HK.out.2.1 a (List.mem_of_mem_take ha)) (fun a ha => (HK.out.2.2.1 a (List.mem_of_mem_take ha)).2)
      have htl : (l.take j).length ≤ 1000 := by rw [List.length_take]; omega
      have hwb := Nat.le_trans hwl (Nat.mul_le_mul_right _ htl)
      obtain ⟨S0, hS0⟩ : ∃ S0, weighN (l.take j) (m.take j) = S0 := ⟨_, rfl⟩
      rw [hS0] at hwb hsn ⊢
      obtain ⟨z, hz⟩ : ∃ z, y.toNat = z := ⟨_, rfl⟩
      have ez : max y 0 = (z : Int) := by omega
      obtain ⟨u, hu⟩ : ∃ u, x * z = u := ⟨_, rfl⟩
      have eu : (x : Int) * (z : Int) = (u : Int) := by rw [← hu]; exact (Int.natCast_mul x z).symm
      have hub : u ≤ 255 * 2000000000 := by rw [← hu]; exact Nat.mul_le_mul (by omega) (by omega)
      have hub2 : (u : Int) ≤ 510000000000 := by omega
      have hwb2 : (S0 : Int) ≤ 512000000000000 := by omega
      have hx9 : (x : Int) ≤ 255 := by omega
      have hz9 : (z : Int) ≤ 2000000000 := by omega
      have HX := Lib.hid (And.intro hsn (And.intro hz hu))
      clear hx hy hc1 hc2 hx8 hsn hwl htl hwb hS0 hz hu hub
      obtain ⟨hy1, hy2⟩ := hy8
      go_wp2_with fail
      obtain ⟨hsn, hz, hu⟩ := HX.out
      refine ⟨⟨j + 1, by go_num, by omega, ?_, trivial⟩, by simp [intOf]; omega⟩
      rw [hsn, hz, hu]
      congr 1
    · have hje : j = K := by omega
      subst hje
      have HE := Lib.hid (show weighN (l.take j) (m.take j) = weighN l m by have := weigh_min l m; rwa [HK.out.1] at this)
      go_wp2_with fail
      go_ret
      rw [← HE.out]
      exact ⟨rfl, Fr.refl _ _⟩
end Go.Proofs.Ytmajacfcfdljeaa
