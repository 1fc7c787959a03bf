/- stableCmpFunc, SortStableFunc: things put in order, those of one weight as they stood. -/
import Derived.Test.YtciejmlhdmjajaaKSf
namespace Go.Proofs.Ytciejmlhdmjajaa
open Go.RowKit
set_option linter.unusedVariables false
set_option linter.unusedSimpArgs false

/-- The block from c to d is sorted, and holds what was in it. -/
def Ok (W : Nat → Nat) (n : Nat) (ρ : Nat → Nat) (c d : Nat) : Prop := SortedS W ρ c (min d n) ∧ ∀ k, c ≤ k → k < d → k < n → c ≤ ρ k ∧ ρ k < d ∧ ρ k < n
theorem Ok.far {W : Nat → Nat} {n : Nat} {ρ : Nat → Nat} {c d : Nat} (h : n ≤ c) : Ok W n ρ c d := ⟨fun i j h1 h2 h3 => by omega, fun k h1 h2 h3 => by omega⟩
theorem Ok.wide {W : Nat → Nat} {n : Nat} {ρ : Nat → Nat} {c m d : Nat} (h : Ok W n ρ c m) (hm : n ≤ m) (hd : m ≤ d) : Ok W n ρ c d :=
  ⟨fun i j h1 h2 h3 => h.1 i j h1 h2 (by omega), fun k h1 h2 h3 => by have := h.2 k h1 (by omega) h3; omega⟩
theorem Ok.two {W : Nat → Nat} {n : Nat} {ρ : Nat → Nat} {c m d : Nat} (h : Ok W n ρ c m) (k : Ok W n ρ m d) (h1 : m < n) (h2 : m ≤ d) : Two W ρ c m (min d n) :=
  ⟨fun i j a b e => h.1 i j a b (by omega), fun i j a b e => k.1 i j a b e, fun i j a b e f => by have := h.2 i a b (by omega); have := k.2 j e (by omega) (by omega); omega⟩
theorem Ok.merged {W : Nat → Nat} {n : Nat} {ρ τ : Nat → Nat} {c m d : Nat} (h : Ok W n ρ c m) (k : Ok W n ρ m d) (h0 : c ≤ m) (h2 : m ≤ d) (hs : Shuf c (min d n) ρ τ) (hso : SortedS W τ c (min d n)) : Ok W n τ c d := by
  refine ⟨hso, fun i h3 h4 h5 => ?_⟩
  obtain ⟨j, j1, j2, j3⟩ := hs.2.1 i h3 (by omega)
  rw [j3]
  by_cases hj : j < m
  · have := h.2 j j1 hj (by omega); omega
  · have := k.2 j (by omega) (by omega) (by omega); omega
theorem Ok.keep {W : Nat → Nat} {n : Nat} {ρ τ : Nat → Nat} {c d a b : Nat} (h : Ok W n ρ c d) (hs : Shuf a b ρ τ) (hd : d ≤ a ∨ b ≤ c) : Ok W n τ c d := by
  refine ⟨h.1.congr fun k h1 h2 => hs.1 k (by omega), fun k h1 h2 h3 => ?_⟩
  rw [hs.1 k (by omega)]
  exact h.2 k h1 h2 h3
theorem dvd_step {D c a : Nat} (h1 : D ∣ c) (h2 : D ∣ a) (h : c < a) : c + D ≤ a := by
  have h3 : D ∣ a - c := Nat.dvd_sub h2 h1
  have := Nat.le_of_dvd (by omega) h3
  omega
theorem shuf_lt {n : Nat} {ρ : Nat → Nat} (h : Shuf 0 n id ρ) (k : Nat) (hk : k < n) : ρ k < n := by
  obtain ⟨j, _, h2, h3⟩ := h.2.1 k (by omega) hk
  rw [h3]; exact h2

set_option maxRecDepth 2000000 in
set_option maxHeartbeats 12800000 in
theorem stable_any (q : FuncId) (hq : CmpOk q) (g n c : Nat) (F : Nat → Th) (w : World) (h : Trow w g n F) (hn : n ≤ 1000) (hW : ∀ k, (F k).w ≤ 1000000000000000) :
    Calls Try.prog 85 #[.slice (some ⟨g, 0, none⟩) n c, .int .i64 (n : Int), .func (.func q) #[] #[]] w fun e w' => e = .returned (.tuple #[]) ∧ Fr [g] w w' ∧ ∃ τ, Trow w' g n (fun k => F (τ k)) ∧ Shuf 0 n id τ ∧ SortedS (fun k => (F k).w) τ 0 n := by
  have i1 : (n : Int) ≤ 1000 := by omega
  have H := Lib.hid (And.intro h (And.intro hq hW))
  have HN := Lib.hid hn
  clear h hq hW hn
  go_enter Try.func85, Try.ntmps85
  go_wp2_with fail
  go_loopw [7, 8] (fun u v wr => ∃ (a : Nat) (ρ : Nat → Nat), a ≤ n ∧ 20 ∣ a ∧ u = .int .i64 (a : Int) ∧ v = .int .i64 ((a + 20 : Nat) : Int) ∧ Trow wr g n (fun k => F (ρ k)) ∧ (∀ c, 20 ∣ c → c < a → Ok (fun k => (F k).w) n ρ c (c + 20)) ∧ (∀ k, a ≤ k → ρ k = k) ∧ Shuf 0 n id ρ ∧ Fr [g] w wr) (fun u _ _ => n - (intOf u).toNat)
  case atStart => exact ⟨0, id, by omega, ⟨0, rfl⟩, rfl, rfl, H.out.1, fun c _ h => by omega, fun _ _ => rfl, Shuf.refl _ _ _, Fr.refl _ _⟩
  case round =>
    obtain ⟨a, ρ, han, hda, rfl, rfl, hT, hok, hid', hsh, hf⟩ := hrel
    by_cases hlt : a + 20 ≤ n
    · have hli : ((a + 20 : Nat) : Int) ≤ (n : Int) := by omega
      have hai : (a : Int) + 20 ≤ (n : Int) := by omega
      have e40 : ((a + 20 : Nat) : Int) + 20 = ((a + 20 + 20 : Nat) : Int) := by omega
      have HC := Lib.hid (insertion_any q H.out.2.1 g n c a (a + 20) F ρ wr hT HN.out (by omega) hlt H.out.2.2 (fun i j h1 h2 h3 => by rw [hid' i h1, hid' j (by omega)]; exact h2))
      have HS := Lib.hid (And.intro hok (And.intro hid' (And.intro hsh (And.intro hf hda))))
      clear hT hok hid' hsh hf hda
      go_wp2_with fail
      refine HC.out.mono ?_
      rintro e1 w1 ⟨rfl, hf1, hT1⟩
      have H1 := Lib.hid (And.intro hT1 hf1)
      clear hT1 hf1
      go_wp2_with fail
      go_roundw
      case rel =>
        obtain ⟨⟨τ, t1, t2, t3⟩, hf1⟩ := H1.out
        obtain ⟨hok, hid', hsh, hf, hda⟩ := HS.out
        refine ⟨a + 20, τ, hlt, Nat.dvd_add hda (Nat.dvd_refl _), rfl, by first | rfl | (congr 1; omega), t1, fun c h1 h2 => ?_, fun k hk => ?_, hsh.trans (t2.mono (by omega) hlt), hf.trans hf1⟩
        · by_cases hca : c < a
          · exact (hok c h1 hca).keep t2 (.inl (dvd_step h1 hda hca))
          · have hce : c = a := by
              have := fun h => dvd_step hda h1 h
              omega
            subst hce
            refine ⟨fun i j k1 k2 k3 => t3 i j k1 k2 (by omega), fun k k1 k2 k3 => ?_⟩
            obtain ⟨j, j1, j2, j3⟩ := t2.2.1 k k1 k2
            rw [j3, hid' j j1]
            omega
        · rw [t2.1 k (by omega)]
          exact hid' k (by omega)
      case measure => simp [intOf]; omega
    · have hli : (n : Int) < ((a + 20 : Nat) : Int) := by omega
      have han' : (a : Int) ≤ (n : Int) := by omega
      have HC := Lib.hid (insertion_any q H.out.2.1 g n c a n F ρ wr hT HN.out han (Nat.le_refl _) H.out.2.2 (fun i j h1 h2 h3 => by rw [hid' i h1, hid' j (by omega)]; exact h2))
      have HS := Lib.hid (And.intro hok (And.intro hid' (And.intro hsh (And.intro hf (And.intro hda hlt)))))
      clear hT hok hid' hsh hf hda hlt
      go_wp2_with fail
      refine HC.out.mono ?_
      rintro e1 w1 ⟨rfl, hf1, hT1⟩
      have H1 : Hid (∃ ρ, Trow w1 g n (fun k => F (ρ k)) ∧ (∀ c, 20 ∣ c → Ok (fun k => (F k).w) n ρ c (c + 20)) ∧ Shuf 0 n id ρ ∧ Fr [g] w w1) := by
        apply Lib.hid
        obtain ⟨τ, t1, t2, t3⟩ := hT1
        obtain ⟨hok, hid', hsh, hf, hda, hlt⟩ := HS.out
        refine ⟨τ, t1, fun c h1 => ?_, hsh.trans (t2.mono (by omega) (Nat.le_refl _)), hf.trans hf1⟩
        by_cases hca : c < a
        · exact (hok c h1 hca).keep t2 (.inl (dvd_step h1 hda hca))
        · by_cases hce : c = a
          · subst hce
            refine ⟨fun i j k1 k2 k3 => t3 i j k1 k2 (by omega), fun k k1 k2 k3 => ?_⟩
            obtain ⟨j, j1, j2, j3⟩ := t2.2.1 k k1 k3
            rw [j3, hid' j j1]
            omega
          · have := dvd_step hda h1 (by omega)
            exact Ok.far (by omega)
      clear hT1 hf1
      go_wp2_with fail
      go_loopw [6, 7, 8] (fun x u v wr => ∃ (B : Nat) (ρ : Nat → Nat), 20 ≤ B ∧ B ≤ 2000 ∧ x = .int .i64 (B : Int) ∧ Trow wr g n (fun k => F (ρ k)) ∧ (∀ c, B ∣ c → Ok (fun k => (F k).w) n ρ c (c + B)) ∧ Shuf 0 n id ρ ∧ Fr [g] w wr) (fun x _ _ _ => 2001 - (intOf x).toNat)
      case atStart =>
        obtain ⟨ρ, h1, h2, h3, h4⟩ := H1.out
        exact ⟨20, ρ, by omega, by omega, rfl, h1, h2, h3, h4⟩
      case round =>
        obtain ⟨B, ρ, hB0, hB1, rfl, hT, hok, hsh, hf⟩ := hrel
        have hB0' : 20 ≤ (B : Int) := by omega
        have hB1' : (B : Int) ≤ 2000 := by omega
        by_cases hBn : B < n
        · obtain ⟨D, hD⟩ : ∃ D, 2 * B = D := ⟨_, rfl⟩
          have hBn' : (B : Int) < (n : Int) := by omega
          have eD : 2 * (B : Int) = (D : Int) := by omega
          have eD2 : (B : Int) * 2 = (D : Int) := by omega
          have hD' : (D : Int) ≤ 2000 := by omega
          have HS := Lib.hid (And.intro hT (And.intro hok (And.intro hsh (And.intro hf hD))))
          clear hT hok hsh hf hD
          go_wp2_with fail
          obtain ⟨wo, hwo⟩ : ∃ wo, wo = wr := ⟨wr, rfl⟩
          subst hwo
          go_loopw [7, 8] (fun u v wr => ∃ (a b : Nat) (τ : Nat → Nat), a ≤ n ∧ a + D = b ∧ D ∣ a ∧ u = .int .i64 (a : Int) ∧ v = .int .i64 (b : Int) ∧ Trow wr g n (fun k => F (τ k)) ∧ (∀ c, D ∣ c → c < a → Ok (fun k => (F k).w) n τ c (c + D)) ∧ (∀ c, B ∣ c → a ≤ c → Ok (fun k => (F k).w) n τ c (c + B)) ∧ Shuf 0 n id τ ∧ Fr [g] w wr) (fun u _ _ => n - (intOf u).toNat)
          case atStart =>
            obtain ⟨hT, hok, hsh, hf, hD⟩ := HS.out
            exact ⟨0, D, ρ, by omega, by omega, ⟨0, rfl⟩, rfl, rfl, hT, fun c _ h => by omega, fun c h _ => hok c h, hsh, hf⟩
          case round =>
            obtain ⟨a, b, τ, han, hab, hda, rfl, rfl, hT, hk1, hk2, hsh, hf⟩ := hrel
            obtain ⟨m, hm⟩ : ∃ m, a + B = m := ⟨_, rfl⟩
            have em : (a : Int) + (B : Int) = (m : Int) := by omega
            have hD2 := HS.out.2.2.2.2
            have hBa : B ∣ a := Nat.dvd_trans ⟨2, by omega⟩ hda
            have hBm : B ∣ m := by rw [← hm]; exact Nat.dvd_add hBa (Nat.dvd_refl _)
            have hka := hk2 a hBa (Nat.le_refl _)
            have hkm := hk2 m hBm (by omega)
            rw [hm] at hka
            rw [show m + B = b by omega] at hkm
            have hmn : (m : Int) ≤ 5000 := by omega
            have hbn : (b : Int) ≤ 5000 := by omega
            by_cases hlt : b ≤ n
            · have hli : (b : Int) ≤ (n : Int) := by omega
              obtain ⟨b2, hb2⟩ : ∃ b2, b + D = b2 := ⟨_, rfl⟩
              have eb2 : (b : Int) + (D : Int) = (b2 : Int) := by omega
              have htwo := hka.two hkm (by omega) (by omega)
              rw [Nat.min_eq_left hlt] at htwo
              have HC := Lib.hid (merge_ok (b - a) q H.out.2.1 g n c a m b F τ wr hT HN.out (by omega) (by omega) hlt H.out.2.2 htwo (Nat.le_refl _))
              have HK := Lib.hid (And.intro hk1 (And.intro hk2 (And.intro hsh (And.intro hf (And.intro hda (And.intro hka (And.intro hkm (And.intro hab (And.intro hm hb2)))))))))
              clear hT hk1 hk2 hsh hf hda hka hkm htwo hBa hBm hab hm hb2 hD2
              go_wp2_with fail
              refine HC.out.mono ?_
              rintro e1 w1 ⟨rfl, hf1, hT1⟩
              have H1 := Lib.hid (And.intro hT1 hf1)
              clear hT1 hf1
              go_wp2_with fail
              go_roundw
              case rel =>
                obtain ⟨⟨α, t1, t2, t3⟩, hf1⟩ := H1.out
                obtain ⟨hk1, hk2, hsh, hf, hda, hka, hkm, hab, hm, hb2⟩ := HK.out
                have hdb : D ∣ b := by rw [← hab]; exact Nat.dvd_add hda (Nat.dvd_refl _)
                refine ⟨b, b2, α, hlt, hb2, hdb, rfl, rfl, t1, fun c h1 h2 => ?_, fun c h1 h2 => ?_, hsh.trans (t2.mono (by omega) hlt), hf.trans hf1⟩
                · by_cases hca : c < a
                  · exact (hk1 c h1 hca).keep t2 (.inl (dvd_step h1 hda hca))
                  · have hce : c = a := by
                      have := fun h => dvd_step hda h1 h
                      omega
                    rw [hce, hab]
                    rw [← Nat.min_eq_left hlt] at t2 t3
                    exact hka.merged hkm (by omega) (by omega) t2 t3
                · exact (hk2 c h1 (by omega)).keep t2 (.inr h2)
              case measure => simp [intOf]; have := HK.out.2.2.2.2.2.2.2.1; omega
            · have hli : (n : Int) < (b : Int) := by omega
              by_cases hmn2 : m < n
              · have hmn' : (m : Int) < (n : Int) := by omega
                have htwo := hka.two hkm hmn2 (by omega)
                rw [Nat.min_eq_right (by omega)] at htwo
                have HC := Lib.hid (merge_ok (n - a) q H.out.2.1 g n c a m n F τ wr hT HN.out (by omega) hmn2 (Nat.le_refl _) H.out.2.2 htwo (Nat.le_refl _))
                have HK := Lib.hid (And.intro hk1 (And.intro hk2 (And.intro hsh (And.intro hf (And.intro hda (And.intro hka (And.intro hkm (And.intro hab (And.intro hm (And.intro hlt hD2))))))))))
                clear hT hk1 hk2 hsh hf hda hka hkm htwo hBa hBm hab hm hlt hD2
                go_wp2_with fail
                refine HC.out.mono ?_
                rintro e1 w1 ⟨rfl, hf1, hT1⟩
                have H2 := Lib.hid (And.intro hT1 hf1)
                clear hT1 hf1
                go_wp2_with fail
                go_roundw
                case rel =>
                  obtain ⟨⟨α, t1, t2, t3⟩, hf1⟩ := H2.out
                  obtain ⟨hk1, hk2, hsh, hf, hda, hka, hkm, hab, hm, hlt, hD2⟩ := HK.out
                  refine ⟨D, α, by omega, by omega, rfl, t1, fun c h1 => ?_, hsh.trans (t2.mono (by omega) (Nat.le_refl _)), hf.trans hf1⟩
                  by_cases hca : c < a
                  · exact (hk1 c h1 hca).keep t2 (.inl (dvd_step h1 hda hca))
                  · by_cases hce : c = a
                    · rw [hce, hab]
                      rw [← Nat.min_eq_right (show n ≤ b by omega)] at t2 t3
                      exact hka.merged hkm (by omega) (by omega) t2 t3
                    · have := dvd_step hda h1 (by omega)
                      exact Ok.far (by omega)
                case measure => simp [intOf]; have := HK.out.2.2.2.2.2.2.2.2.2.2; omega
              · have hmn' : (n : Int) ≤ (m : Int) := by omega
                have HK := Lib.hid (And.intro hT (And.intro hk1 (And.intro hsh (And.intro hf (And.intro hda (And.intro hka (And.intro hab (And.intro hm (And.intro hlt hD2)))))))))
                clear hT hk1 hk2 hsh hf hda hka hkm hBa hBm hab hm hlt hD2
                go_wp2_with fail
                go_roundw
                case rel =>
                  obtain ⟨hT, hk1, hsh, hf, hda, hka, hab, hm, hlt, hD2⟩ := HK.out
                  refine ⟨D, τ, by omega, by omega, rfl, hT, fun c h1 => ?_, hsh, hf⟩
                  by_cases hca : c < a
                  · exact hk1 c h1 hca
                  · by_cases hce : c = a
                    · rw [hce, hab]
                      exact hka.wide (by omega) (by omega)
                    · have := dvd_step hda h1 (by omega)
                      exact Ok.far (by omega)
                case measure => simp [intOf]; have := HK.out.2.2.2.2.2.2.2.2.2; omega
        · have hBn' : (n : Int) ≤ (B : Int) := by omega
          have hso := (hok 0 ⟨0, by simp⟩).1
          rw [Nat.min_eq_right (by omega)] at hso
          have HS := Lib.hid (And.intro hT (And.intro hsh (And.intro hso hf)))
          clear hT hok hsh hf hso
          go_wp2_with fail
          refine bodyPost_end (v := .tuple #[]) (by simp [results, Try.results85, go_sem]) rfl ?_
          exact ⟨rfl, HS.out.2.2.2, ρ, HS.out.1, HS.out.2.1, HS.out.2.2.1⟩
/-- Things in order. -/
theorem sort_any (q : FuncId) (hq : CmpOk q) (g n c : Nat) (F : Nat → Th) (w : World) (h : Trow w g n F) (hn : n ≤ 1000) (hW : ∀ k, (F k).w ≤ 1000000000000000) :
    Calls Try.prog 72 #[.slice (some ⟨g, 0, none⟩) n c, .func (.func q) #[] #[]] w fun e w' => e = .returned (.tuple #[]) ∧ Fr [g] w w' ∧ ∃ τ, Trow w' g n (fun k => F (τ k)) ∧ Shuf 0 n id τ ∧ SortedS (fun k => (F k).w) τ 0 n := by
  have HC := Lib.hid (stable_any q hq g n c F w h hn hW)
  clear h hq hW
  go_enter Try.func72, Try.ntmps72
  go_wp2_with fail
  refine HC.out.mono ?_
  rintro e1 w1 ⟨rfl, hf1, hT1⟩
  have H1 := Lib.hid (And.intro hT1 hf1)
  clear hT1 hf1
  go_wp2_with fail
  refine bodyPost_end (v := .tuple #[]) (by simp [results, Try.results72, go_sem]) rfl ?_
  exact ⟨rfl, H1.out.2, H1.out.1⟩
end Go.Proofs.Ytciejmlhdmjajaa

