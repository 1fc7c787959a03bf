/- Replay, the program's and the document's. -/
import Derived.Test.YtoicdepkakgedaaMh
namespace Go.Proofs.Ytoicdepkakgedaa
open Go.RowKit
set_option linter.unusedVariables false
set_option linter.unusedSimpArgs false

theorem decM_size (p : Int) (f : Nat) (s : List UInt8) (hf : s.length ≤ f) (l : List Md) (h : decM p f s = some l) : sizeN l = s.length := by
  induction f generalizing s l with
  | zero =>
    have : s = [] := List.eq_nil_of_length_eq_zero (by omega)
    subst this
    simp [decM] at h
    subst h
    rfl
  | succ f ih =>
    simp only [decM] at h
    split at h
    · rename_i hs; subst hs; simp at h; subst h; rfl
    · split at h
      · cases h
      · rename_i m hm
        split at h
        · obtain ⟨l', h1, rfl⟩ := Option.map_eq_some_iff.1 h
          have hr := hm
          unfold recM at hr
          split at hr
          · rename_i hc
            injection hr with hr
            have hsz : m.text.size = recN s := by subst hr; simp [ByteArray.size]; omega
            have := ih (s.drop (4 + m.text.size)) (by simp; omega) l' h1
            simp only [sizeN]
            rw [this, List.length_drop]
            omega
          · cases hr
        · cases h
theorem decV_size (p : Int) (s : ByteArray) : sizeN (decV p s) ≤ s.size := by
  unfold decV
  split
  · cases h : decL p s.data.toList with
    | none => simp [sizeN]
    | some l => have := decM_size p _ _ (Nat.le_refl _) l h; simp at this ⊢; omega
  · simp [sizeN]
theorem length_sizeN (l : List Md) : l.length ≤ sizeN l := by
  induction l with
  | nil => simp [sizeN]
  | cons m l ih => simp only [List.length_cons, sizeN]; omega
theorem md_len (m : Md) : m.enc.length = 2 := rfl
def repS (t s : ByteArray) : ByteArray := if decE t.size s = 0 then appS t (decV t.size s) else ByteArray.empty
def repE (t s : ByteArray) : Int := if decE t.size s = 0 then appE t (decV t.size s) else decE t.size s

set_option maxRecDepth 2000000 in
set_option maxHeartbeats 1600000 in
theorem replay_any (t s : ByteArray) (w : World) (ht : t.size ≤ 1000000000) (hs : s.size ≤ 1000000) :
    Calls Try.prog 27 #[.string t, .string s] w fun e w' => e = .returned (.tuple #[.string (repS t s), .int .i64 (repE t s)]) ∧ Fr [] w w' := by
  have hti : (t.size : Int) ≤ 1000000000 := by omega
  have hvs := decV_size t.size s
  have hvl := length_sizeN (decV t.size s)
  have hpost : ∀ W, Calls Try.prog 22 #[.int .i64 (t.size : Int), .string s] W fun e w' => ∃ a0 cap, e = .returned (.tuple #[.slice a0 (decV t.size s).length cap, .int .i64 (decE t.size s)]) ∧ SlOf Md.enc 2 w' a0 (decV t.size s) ∧ Fr [] W w' := fun W => by
    refine (decode_any t.size s W hs).mono ?_
    rintro e w' ⟨v, rfl, h1, h2⟩
    obtain ⟨a0, cap, rfl, h3⟩ := slOf_own md_len h1 rfl
    exact ⟨a0, cap, rfl, h3, h2⟩
  have HP := Lib.hid hpost
  have happ : ∀ W a0 c, SlOf Md.enc 2 W a0 (decV t.size s) → Calls Try.prog 14 #[.string t, .slice a0 (decV t.size s).length c] W fun e w' => e = .returned (.tuple #[.string (appS t (decV t.size s)), .int .i64 (appE t (decV t.size s))]) ∧ Fr [] W w' := fun W a0 c h =>
    apply_any t a0 c (decV t.size s) W h (by omega) (by omega) ht
  have HA := Lib.hid happ
  clear hpost happ hvs hvl
  have er : (repS t s = if decE t.size s = 0 then appS t (decV t.size s) else ByteArray.empty) ∧ (repE t s = if decE t.size s = 0 then appE t (decV t.size s) else decE t.size s) := ⟨rfl, rfl⟩
  have HR := Lib.hid er
  clear er
  generalize decV t.size s = l at *
  generalize decE t.size s = E at *
  by_cases hE : E = 0
  · subst hE
    go_enter Try.func27, Try.ntmps27
    go_wp2_with fail
    refine (HP.out _).mono ?_
    rintro e w1 ⟨a0, cap, rfl, h1, h2⟩
    have H1 := Lib.hid (And.intro h1 h2)
    clear h1 h2
    go_wp2_with fail
    refine (HA.out _ _ _ H1.out.1).mono ?_
    rintro e w2 ⟨rfl, f2⟩
    have H2 := Lib.hid f2
    clear f2
    go_wp2_with fail
    go_ret2
    rw [HR.out.1, HR.out.2]
    exact ⟨rfl, H1.out.2.trans H2.out⟩
  · have hb : (E != 0) = true := by rw [bne_iff_ne]; exact hE
    have HRR := Lib.hid (And.intro (HR.out.1.trans (if_neg hE)) (HR.out.2.trans (if_neg hE)))
    clear hE HR
    go_enter Try.func27, Try.ntmps27
    go_wp2_with fail
    refine (HP.out _).mono ?_
    rintro e w1 ⟨a0, cap, rfl, h1, h2⟩
    have H1 := Lib.hid (And.intro h1 h2)
    clear h1 h2
    go_wp2_with fail
    go_ret2
    rw [HRR.out.1, HRR.out.2]
    exact ⟨rfl, H1.out.2⟩

set_option maxRecDepth 2000000 in
set_option maxHeartbeats 1600000 in
theorem rreplay_any (t s : ByteArray) (w : World) (ht : t.size ≤ 1000000000) (hs : s.size ≤ 1000000) :
    Calls Try.prog 28 #[.string t, .string s] w fun e w' => e = .returned (.tuple #[.string (repS t s), .int .i64 (repE t s)]) ∧ Fr [] w w' := by
  have hti : (t.size : Int) ≤ 1000000000 := by omega
  have hvs := decV_size t.size s
  have hvl := length_sizeN (decV t.size s)
  have hpost : ∀ W, Calls Try.prog 26 #[.int .i64 (t.size : Int), .string s] W fun e w' => ∃ a0 cap, e = .returned (.tuple #[.slice a0 (decV t.size s).length cap, .int .i64 (decE t.size s)]) ∧ SlOf Md.enc 2 w' a0 (decV t.size s) ∧ Fr [] W w' := fun W => by
    refine (rdecode_any t.size s W hs).mono ?_
    rintro e w' ⟨v, rfl, h1, h2⟩
    obtain ⟨a0, cap, rfl, h3⟩ := slOf_own md_len h1 rfl
    exact ⟨a0, cap, rfl, h3, h2⟩
  have HP := Lib.hid hpost
  have happ : ∀ W a0 c, SlOf Md.enc 2 W a0 (decV t.size s) → Calls Try.prog 15 #[.string t, .slice a0 (decV t.size s).length c] W fun e w' => e = .returned (.tuple #[.string (appS t (decV t.size s)), .int .i64 (appE t (decV t.size s))]) ∧ Fr [] W w' := fun W a0 c h =>
    rapply_any t a0 c (decV t.size s) W h (by omega) (by omega) ht
  have HA := Lib.hid happ
  clear hpost happ hvs hvl
  have er : (repS t s = if decE t.size s = 0 then appS t (decV t.size s) else ByteArray.empty) ∧ (repE t s = if decE t.size s = 0 then appE t (decV t.size s) else decE t.size s) := ⟨rfl, rfl⟩
  have HR := Lib.hid er
  clear er
  generalize decV t.size s = l at *
  generalize decE t.size s = E at *
  by_cases hE : E = 0
  · subst hE
    go_enter Try.func28, Try.ntmps28
    go_wp2_with fail
    refine (HP.out _).mono ?_
    rintro e w1 ⟨a0, cap, rfl, h1, h2⟩
    have H1 := Lib.hid (And.intro h1 h2)
    clear h1 h2
    go_wp2_with fail
    refine (HA.out _ _ _ H1.out.1).mono ?_
    rintro e w2 ⟨rfl, f2⟩
    have H2 := Lib.hid f2
    clear f2
    go_wp2_with fail
    go_ret2
    rw [HR.out.1, HR.out.2]
    exact ⟨rfl, H1.out.2.trans H2.out⟩
  · have hb : (E != 0) = true := by rw [bne_iff_ne]; exact hE
    have HRR := Lib.hid (And.intro (HR.out.1.trans (if_neg hE)) (HR.out.2.trans (if_neg hE)))
    clear hE HR
    go_enter Try.func28, Try.ntmps28
    go_wp2_with fail
    refine (HP.out _).mono ?_
    rintro e w1 ⟨a0, cap, rfl, h1, h2⟩
    have H1 := Lib.hid (And.intro h1 h2)
    clear h1 h2
    go_wp2_with fail
    go_ret2
    rw [HRR.out.1, HRR.out.2]
    exact ⟨rfl, H1.out.2⟩
end Go.Proofs.Ytoicdepkakgedaa
