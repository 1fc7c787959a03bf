/- The statement BitrBack. -/
import Derived.Test.YtlognooioemenaaLc
import Derived.Test.YtlognooioemenaaLm
import Derived.Test.YtlognooioemenaaSp
import Derived.Test.YtlognooioemenaaLr
import Derived.Lib.IndexBytes
import Derived.Deep.RegionWith
namespace Go.Proofs.Ytlognooioemenaa
open Go.RowKit
set_option linter.unusedVariables false
set_option linter.unusedSimpArgs false

/-- How many bits a number is written in; its bits. -/
def Piece03.k (p : Piece03) : Nat := (p.size % 57).toNat
def Piece03.x (p : Piece03) : Nat := p.n.toNat % 2 ^ p.k
/-- What bits there are behind a piece. -/
def put (N L : Nat) (p : Piece03) : Nat × Nat := if p.by_ then (N + num p.s * 2 ^ (L + pad L), L + pad L + 8 * p.s.size) else (N + p.x * 2 ^ L, L + p.k)
def puts : List Piece03 → Nat × Nat → Nat × Nat
  | [], a => a
  | p :: l, a => puts l (put a.1 a.2 p)

theorem puts_append (a b : List Piece03) (s : Nat × Nat) : puts (a ++ b) s = puts b (puts a s) := by
  induction a generalizing s with
  | nil => rfl
  | cons p a ih => simp [puts, ih]
theorem puts_take (l : List Piece03) (i : Nat) (p : Piece03) (h : l[i]? = some p) (s : Nat × Nat) : puts (l.take (i + 1)) s = put (puts (l.take i) s).1 (puts (l.take i) s).2 p := by
  obtain ⟨hi, he⟩ := List.getElem?_eq_some_iff.1 h
  rw [List.take_succ_eq_append_getElem hi, puts_append, he]
  rfl
theorem put_grows (N L : Nat) (p : Piece03) : (∃ y, (put N L p).1 = N + y * 2 ^ L) ∧ L ≤ (put N L p).2 := by
  unfold put
  split
  · exact ⟨⟨num p.s * 2 ^ pad L, by rw [Nat.mul_assoc, ← Nat.pow_add, Nat.add_comm (pad L)]⟩, by simp only; omega⟩
  · exact ⟨⟨p.x, rfl⟩, by simp only; omega⟩
theorem puts_grows (l : List Piece03) (s : Nat × Nat) : (∃ y, (puts l s).1 = s.1 + y * 2 ^ s.2) ∧ s.2 ≤ (puts l s).2 := by
  induction l generalizing s with
  | nil => exact ⟨⟨0, by simp [puts]⟩, Nat.le_refl _⟩
  | cons p l ih =>
    obtain ⟨⟨y, hy⟩, h1⟩ := put_grows s.1 s.2 p
    obtain ⟨⟨z, hz⟩, h2⟩ := ih (put s.1 s.2 p)
    obtain ⟨d, hd⟩ : ∃ d, (put s.1 s.2 p).2 = s.2 + d := ⟨(put s.1 s.2 p).2 - s.2, by omega⟩
    refine ⟨⟨y + z * 2 ^ d, ?_⟩, Nat.le_trans h1 h2⟩
    simp only [puts]
    rw [hz, hy, hd, Nat.pow_add, Nat.add_mul, Nat.add_assoc]
    congr 2
    rw [Nat.mul_assoc, Nat.mul_comm (2 ^ d)]
theorem puts_later (l : List Piece03) (i : Nat) (s : Nat × Nat) : (∃ y, (puts l s).1 = (puts (l.take i) s).1 + y * 2 ^ (puts (l.take i) s).2) ∧ (puts (l.take i) s).2 ≤ (puts l s).2 := by
  have h := puts_grows (l.drop i) (puts (l.take i) s)
  rw [← puts_append, List.take_append_drop] at h
  exact h

theorem put_lt (N L : Nat) (p : Piece03) (h : N < 2 ^ L) : (put N L p).1 < 2 ^ (put N L p).2 := by
  unfold put
  split
  · exact new_lt N (num p.s) (L + pad L) (8 * p.s.size) (Nat.lt_of_lt_of_le h (Nat.pow_le_pow_right (by decide) (by omega))) (num_lt p.s)
  · exact new_lt N p.x L p.k h (Nat.mod_lt _ (Nat.pow_pos (by decide)))
theorem puts_ltg (l : List Piece03) (s : Nat × Nat) (h : s.1 < 2 ^ s.2) : (puts l s).1 < 2 ^ (puts l s).2 := by
  induction l generalizing s with
  | nil => exact h
  | cons p l ih => exact ih _ (put_lt s.1 s.2 p h)
theorem puts_lt (l : List Piece03) : (puts l (0, 0)).1 < 2 ^ (puts l (0, 0)).2 := puts_ltg l (0, 0) (by decide)

/-- Bits in the middle: what was put there. -/
theorem mid_bits (N L k x M y : Nat) (hN : N < 2 ^ L) (hx : x < 2 ^ k) (h : M = N + x * 2 ^ L + y * 2 ^ (L + k)) : M / 2 ^ L % 2 ^ k = x := by
  rw [h, Nat.pow_add, Nat.mul_comm (2 ^ L), ← Nat.mul_assoc, Nat.add_assoc, ← Nat.add_mul, Nat.add_mul_div_right _ _ (Nat.pow_pos (by decide)), Nat.div_eq_of_lt hN, Nat.zero_add, Nat.add_mul_mod_self_right, Nat.mod_eq_of_lt hx]
theorem num_wtext (N L : Nat) (h : N < 2 ^ L) : num (wtext N L) = N := by
  rw [wtext, num_leb, pow256]
  exact Nat.mod_eq_of_lt (Nat.lt_of_lt_of_le h (Nat.pow_le_pow_right (by decide) (by omega)))
theorem mid_bytes (N L P : Nat) (s : ByteArray) (M K y : Nat) (hN : N < 2 ^ L) (hP : P = L + pad L) (h : M = N + num s * 2 ^ P + y * 2 ^ (P + 8 * s.size)) (hK : P + 8 * s.size ≤ K) (hM : M < 2 ^ K) :
    (wtext M K).extract (P / 8) (P / 8 + s.size) = s := by
  have h8 : P % 8 = 0 := by rw [hP]; unfold pad; omega
  have hNP : N < 2 ^ P := Nat.lt_of_lt_of_le hN (Nat.pow_le_pow_right (by decide) (by omega))
  have hb := mid_bits N P (8 * s.size) (num s) M y hNP (num_lt s) h
  apply num_inj
  · have := wtext_size M K
    simp; omega
  · have e : num ((wtext M K).extract (P / 8) (P / 8 + s.size)) = num (wtext M K) / 2 ^ (8 * (P / 8)) % 2 ^ (8 * s.size) := by
      unfold num
      rw [Lib.extract_data, numL_take, numL_drop, pow256, pow256]
      congr 2; omega
    rw [e, num_wtext M K hM, show 8 * (P / 8) = P by omega, hb]

theorem put_bound (N L : Nat) (p : Piece03) : (put N L p).2 ≤ L + 64 + 8 * p.s.size := by
  unfold put
  have := pad_lt L
  split
  · simp only; omega
  · have : p.k < 57 := by unfold Piece03.k; omega
    simp only; omega

theorem cells03 {w : World} {a1 : Option Addr} {x1 : List Piece03} {k : Nat} {p : Piece03} (h : SlOf Piece03.enc Piece03.sz w a1 x1) (hp : x1[k]? = some p) :
    ∃ b o, a1 = some ⟨b, o, none⟩ ∧ w.cell? ⟨b, o + k * 4, none⟩ = some (.int .u64 p.n) ∧ w.cell? ⟨b, o + k * 4 + 1, none⟩ = some (.int .u8 p.size) ∧ w.cell? ⟨b, o + k * 4 + 2, none⟩ = some (.bool p.by_) ∧ w.cell? ⟨b, o + k * 4 + 3, none⟩ = some (.string p.s) := by
  obtain ⟨b, o, ha, _, hc⟩ := h (by intro e; rw [e] at hp; simp at hp)
  exact ⟨b, o, ha, hc k p hp 0 _ rfl, hc k p hp 1 _ rfl, hc k p hp 2 _ rfl, hc k p hp 3 _ rfl⟩

set_option maxRecDepth 100000 in
set_option maxHeartbeats 8000000 in
theorem bitrBack_walk (w : World) (a1 : Option Addr) (c1 : Nat) (x1 : List Piece03) (l1 : x1.length ≤ maxLen) (s1 : SlOf Piece03.enc Piece03.sz w a1 x1) (o1 : ∀ x, x ∈ x1 → x.ok) :
    Calls Try.prog 18 #[.slice a1 x1.length c1] w fun e w' => e = .returned (.bool true) ∧ Below w.heap.size w w' := by
  have S1 := Lib.hid s1
  have O1 := Lib.hid o1
  have L1 := Lib.hid l1
  clear s1 o1 l1
  go_enter Try.func18, Try.ntmps18
  go_wp2_with fail
  refine (heavy03 w a1 c1 x1 L1.out S1.out O1.out).mono ?_
  rintro e wh ⟨r, rfl, hr, fh⟩
  cases r with
  | true =>
    clear hr
    go_wp2_with fail
    refine (alive03 wh).mono ?_
    rintro e w' ⟨rfl, hb⟩
    go_wp2_with fail
    go_ret
    exact ⟨rfl, (Fr.of_below (l := []) hb).out fh.below (by simp)⟩
  | false =>
    obtain ⟨ht, hn⟩ := hr rfl
    have HT := Lib.hid ht
    have i2 : (x1.length : Int) ≤ 300 := by omega
    clear hr ht
    go_wp2_with fail
    refine (wnew_any 16384 wh (by decide)).mono ?_
    rintro e wa ⟨rfl, h1, f1⟩
    replace h1 : Wr wa wh.heap.size (.slice none 0 0) 0 0 16384 := h1
    have o1 := Own.made_in fh.below f1
    have H1 := Lib.hid h1
    clear h1
    go_wp2_with fail
    go_loopw [4] (fun i wr => ∃ (k : Nat) (va : Value), k ≤ x1.length ∧ i = .int .i64 k ∧ (puts (x1.take k) (0, 0)).2 ≤ 64 * k + 8 * ptotal (x1.take k) ∧ Wr wr wh.heap.size va (puts (x1.take k) (0, 0)).1 (puts (x1.take k) (0, 0)).2 16384 ∧ Own w wr wh.heap.size va) (fun i _ => x1.length - (intOf i).toNat)
    case atStart => exact ⟨0, _, Nat.zero_le _, rfl, by simp [puts], H1.out, o1⟩
    case round =>
      obtain ⟨k, va, hk, rfl, hLk, hw, hO⟩ := hrel
      by_cases hlt : k < x1.length
      · obtain ⟨p, hp⟩ : ∃ p, x1[k]? = some p := ⟨x1[k], List.getElem?_eq_getElem hlt⟩
        obtain ⟨⟨o2, o3⟩, ⟨o4, o5⟩, o6⟩ := O1.out p (List.mem_of_getElem? hp)
        obtain ⟨b, o, rfl, k0, k1, k2, k3⟩ := cells03 (S1.out.below hO.below) hp
        have ht1 := ptotal_take x1 k p hp
        have ht2 := ptotal_le x1 (k + 1)
        have hTo := HT.out
        have hpt := puts_take x1 k p hp (0, 0)
        have hbd := put_bound (puts (x1.take k) (0, 0)).1 (puts (x1.take k) (0, 0)).2 p
        rw [← hpt] at hbd
        obtain ⟨n, hn'⟩ := Int.eq_ofNat_of_zero_le o2
        obtain ⟨j, hj⟩ : ∃ j : Nat, p.size % 57 = (j : Int) := ⟨(p.size % 57).toNat, by omega⟩
        have hj56 : j ≤ 56 := by omega
        have hpk : p.k = j := by unfold Piece03.k; omega
        have hpx : p.x = n % 2 ^ j := by unfold Piece03.x; rw [hpk, hn']; rfl
        have hn64 : n < 2 ^ 64 := by omega
        rw [hn'] at k0
        have hps : p.s.size ≤ 4096 := by omega
        generalize hNN : (puts (x1.take k) (0, 0)).1 = N at *
        generalize hLL : (puts (x1.take k) (0, 0)).2 = L at *
        have hL5 : L ≤ 60000 := by omega
        have HN := Lib.hid (And.intro ht1 (And.intro ht2 (And.intro hpt hbd)))
        have HLk := Lib.hid hLk
        have HW := Lib.hid hw
        clear ht1 ht2 hpt hbd hLk hw hNN hLL hTo hn' hp
        have j1 : (j : Int) ≤ 56 := by omega
        cases hby : p.by_ with
        | true =>
          rw [hby] at k2
          have he0 : wbytesE L 16384 p.s = 0 := by unfold wbytesE; rw [if_pos (by omega)]
          have hput : put N L p = (N + num p.s * 2 ^ (L + pad L), L + pad L + 8 * p.s.size) := by unfold put; rw [hby]; rfl
          have HE0 := Lib.hid (And.intro he0 hput)
          clear he0 hput hpk hpx
          go_wp2_with fail
          refine (wbytes_any wh.heap.size va N L 16384 p.s _ HW.out (by omega) (by omega) (by decide)).mono ?_
          rintro e w3 ⟨rfl, v3, g1, g2, g3⟩
          rw [HE0.out.1] at g1 ⊢
          rw [if_pos rfl] at g1
          go_wp2_with fail
          go_roundw
          case rel => exact ⟨k + 1, v3, by omega, by go_num, by have := HN.out.1; have := HN.out.2.2.2; have := HLk.out; omega, by rw [HN.out.2.2.1, HE0.out.2]; exact g1, hO.step g2 g3⟩
          case measure => simp [intOf]; omega
        | false =>
          rw [hby] at k2
          have hand := and_maskN n j hn64 hj56
          rw [← hpx] at hand
          have hxj : p.x < 2 ^ j := by rw [hpx]; exact Nat.mod_lt _ (Nat.pow_pos (by decide))
          have hput : put N L p = (N + p.x * 2 ^ L, L + j) := by unfold put; rw [hby, hpk]; rfl
          have hroom : roomB L j 16384 = true := by unfold roomB; apply decide_eq_true; omega
          have HE0 := Lib.hid (And.intro hroom hput)
          generalize p.x = x at *
          clear hroom hput hpk hpx
          go_wp2_with fail
          go_region_with (first | (go_at_call 26; refine (mask_any _ _).mono ?_; rintro e w2 ⟨rfl, rfl⟩) | (go_at_call 28; refine (wbits_ok wh.heap.size va N L 16384 x j _ (HW.out.to (Fr.drew (Fr.refl [] _)) (by simp)) (by omega) (by decide) hj56 hxj HE0.out.1).mono ?_; rintro e w3 ⟨rfl, v3, g1, g2, g3⟩))
          all_goals
            go_wp2_with fail
            go_roundw
            case rel => exact ⟨k + 1, v3, by omega, by go_num, by have := HN.out.1; have := HN.out.2.2.2; have := HLk.out; omega, by rw [HN.out.2.2.1, HE0.out.2]; exact g1, (hO.quiet (Fr.drew (Fr.refl _ _))).step g2 g3⟩
            case measure => simp [intOf]; omega
      · have hke : k = x1.length := by omega
        subst hke
        rw [List.take_of_length_le (Nat.le_refl _)] at hw hLk
        obtain ⟨M, hM⟩ : ∃ M, (puts x1 (0, 0)).1 = M := ⟨_, rfl⟩
        obtain ⟨K, hK⟩ : ∃ K, (puts x1 (0, 0)).2 = K := ⟨_, rfl⟩
        rw [hM, hK] at hw
        rw [hK] at hLk
        have hTo := HT.out
        have hK5 : K ≤ 60000 := by omega
        have hMK := hw.lt
        have HMK := Lib.hid (And.intro hM (And.intro hK hMK))
        clear hLk hTo hM hK hMK
        go_wp2_with fail
        refine (wtext_any wh.heap.size va M K 16384 _ hw (by omega)).mono ?_
        rintro e w4 ⟨rfl, f4⟩
        have hB4 := (hO.quiet f4).below
        have hts : (wtext M K).size = (K + 7) / 8 := wtext_size _ _
        have hnum := num_wtext M K HMK.out.2.2
        have HNUM := Lib.hid (And.intro hts hnum)
        have hsz : (wtext M K).size ≤ 1000000000 := by omega
        clear hts hnum hw hO f4
        generalize htx : wtext M K = T at *
        have HTX := Lib.hid htx
        clear htx
        go_wp2_with fail
        refine (rnew_any T w4).mono ?_
        rintro e w5 ⟨rfl, h5, f5⟩
        have hB5 := f5.out hB4 (by simp)
        have hsw := hB4.size
        obtain ⟨A, hA⟩ : ∃ A, w4.heap.size = A := ⟨_, rfl⟩
        rw [hA] at h5 hsw ⊢
        have HA := Lib.hid hA
        clear hA f5 hB4
        go_wp2_with fail
        go_loopw [8] (fun i wr => ∃ (k : Nat), k ≤ x1.length ∧ i = .int .i64 k ∧ Rd wr A T (puts (x1.take k) (0, 0)).2 ∧ Below w.heap.size w wr) (fun i _ => x1.length - (intOf i).toNat)
        case atStart => exact ⟨0, Nat.zero_le _, rfl, h5, hB5⟩
        case round =>
          obtain ⟨k, hk, rfl, hR, hB⟩ := hrel
          by_cases hlt : k < x1.length
          · obtain ⟨p, hp⟩ : ∃ p, x1[k]? = some p := ⟨x1[k], List.getElem?_eq_getElem hlt⟩
            obtain ⟨⟨o2, o3⟩, ⟨o4, o5⟩, o6⟩ := O1.out p (List.mem_of_getElem? hp)
            have HS := S1
            obtain ⟨b, o, rfl, k0, k1, k2, k3⟩ := cells03 (S1.out.below hB) hp
            have hpt := puts_take x1 k p hp (0, 0)
            obtain ⟨⟨y, hy⟩, hle⟩ := puts_later x1 (k + 1) (0, 0)
            obtain ⟨_, hle0⟩ := puts_later x1 k (0, 0)
            have hlt0 : (puts (x1.take k) (0, 0)).1 < 2 ^ (puts (x1.take k) (0, 0)).2 := puts_lt (x1.take k)
            rw [HMK.out.1] at hy
            rw [HMK.out.2.1] at hle hle0
            rw [hpt] at hy hle
            obtain ⟨n, hn'⟩ := Int.eq_ofNat_of_zero_le o2
            obtain ⟨j, hj⟩ : ∃ j : Nat, p.size % 57 = (j : Int) := ⟨(p.size % 57).toNat, by omega⟩
            have hj56 : j ≤ 56 := by omega
            have hpk : p.k = j := by unfold Piece03.k; omega
            have hpx : p.x = n % 2 ^ j := by unfold Piece03.x; rw [hpk, hn']; rfl
            have hn64 : n < 2 ^ 64 := by omega
            rw [hn'] at k0
            generalize hNN : (puts (x1.take k) (0, 0)).1 = N at *
            generalize hLL : (puts (x1.take k) (0, 0)).2 = L at *
            have hTs := HNUM.out.1
            have hL8 : L ≤ 8 * T.size := by omega
            have HPT := Lib.hid hpt
            have HY := Lib.hid (And.intro hy (And.intro hle hlt0))
            have HP := Lib.hid hp
            have HN0 := Lib.hid hn'
            clear hpt hy hle hle0 hlt0 hn' hNN hLL hTs hp
            have j1 : (j : Int) ≤ 56 := by omega
            cases hby : p.by_ with
            | true =>
              rw [hby] at k2
              clear hpk hpx
              have hput : put N L p = (N + num p.s * 2 ^ (L + pad L), L + pad L + 8 * p.s.size) := by unfold put; rw [hby]; rfl
              obtain ⟨y1, y2, y3⟩ := HY.out
              rw [hput] at y1 y2
              have hTs := HNUM.out.1
              have hfit : p.s.size ≤ (8 * T.size - L) / 8 := by simp only at y2; unfold pad at y2; omega
              have hbE : bytesE T L (p.s.size : Int) = 0 := by unfold bytesE; rw [if_neg (by omega), if_neg (by omega)]
              have hal : alignA L = L + pad L := by unfold alignA pad; omega
              have hbS : bytesS T L (p.s.size : Int) = p.s := by
                unfold bytesS
                rw [if_pos hbE, Int.toNat_natCast, hal, ← HTX.out]
                exact mid_bytes N L (L + pad L) p.s M K y y3 rfl y1 y2 HMK.out.2.2
              have HB := Lib.hid (And.intro hbE (And.intro hbS (And.intro hal hput)))
              clear y1 y2 y3 hput hbE hbS hal hfit hTs
              go_wp2_with fail
              refine (bytes_any A T L (p.s.size : Int) _ hR hsz hL8).mono ?_
              rintro e w6 ⟨rfl, h6, f6⟩
              rw [HB.out.1] at h6 ⊢
              rw [HB.out.2.1]
              rw [if_pos rfl, HB.out.2.2.1, Int.toNat_natCast] at h6
              have hB6 := f6.out hB (by simp; omega)
              obtain ⟨b', o', hbo, q0, q1, q2, q3⟩ := cells03 (S1.out.below hB6) HP.out
              cases hbo
              go_wp2_with fail
              go_roundw
              case rel => exact ⟨k + 1, by omega, by go_num, by rw [HPT.out, HB.out.2.2.2]; exact h6, hB6⟩
              case measure => simp [intOf]; omega
            | false =>
              rw [hby] at k2
              have hput : put N L p = (N + p.x * 2 ^ L, L + j) := by unfold put; rw [hby, hpk]; rfl
              obtain ⟨y1, y2, y3⟩ := HY.out
              rw [hput] at y1 y2
              have hTs := HNUM.out.1
              have hxj : p.x < 2 ^ j := by rw [hpx]; exact Nat.mod_lt _ (Nat.pow_pos (by decide))
              have hin : L + j ≤ 8 * T.size := by simp only at y2; omega
              have hpH : peekH T L j = j := by unfold peekH; omega
              have hpN : peekN T L j = p.x := by
                rw [peekN_all T L j hin, HNUM.out.2]
                exact mid_bits N L j p.x M y y3 hxj y1
              have hbE : bitsE T L (j : Int) = 0 := by unfold bitsE; rw [if_neg (by omega), if_neg (by omega)]
              have hbN : bitsN T L (j : Int) = p.x := by unfold bitsN; rw [if_pos hbE, Int.toNat_natCast, hpN]
              have hand := and_maskN n j hn64 hj56
              rw [← hpx] at hand
              have HB := Lib.hid (And.intro hpH (And.intro hpN (And.intro hbE (And.intro hbN hput))))
              have HAND := Lib.hid hand
              have HPX := Lib.hid (And.intro hpk hpx)
              clear y1 y2 y3 hput hpH hpN hbE hbN hand hTs hpk hpx hxj
              go_wp2_with fail
              refine (peek_any A T L j _ hR hsz hL8 hj56).mono ?_
              rintro e w6 ⟨rfl, f6⟩
              rw [HB.out.1, HB.out.2.1]
              have h6 := hR.to f6 (by simp)
              have hB6 := f6.out hB (by simp)
              go_wp2_with fail
              refine (bits_any A T L (j : Int) _ h6 hsz hL8).mono ?_
              rintro e w7 ⟨rfl, h7, f7⟩
              rw [HB.out.2.2.1] at h7 ⊢
              rw [HB.out.2.2.2.1]
              rw [if_pos rfl, Int.toNat_natCast] at h7
              have hB7 := f7.out hB6 (by simp; omega)
              obtain ⟨b', o', hbo, q0, q1, q2, q3⟩ := cells03 (S1.out.below hB7) HP.out
              cases hbo
              rw [HN0.out] at q0
              have hand := HAND.out
              clear k0 k1 k2 k3
              go_wp2_with fail
              go_quiet ((go_at_call 26; exact Calls.quiet_of_same (mask_any _ _)))
              go_wp2_with fail
              go_roundw
              case rel => exact ⟨k + 1, by omega, by go_num, by rw [HPT.out, HB.out.2.2.2.2]; exact h7.to (Fr.drewN [] _ _) (by simp), (Fr.drewN [] _ _).out hB7 (by simp)⟩
              case measure => simp [intOf]; omega
          · have hke : k = x1.length := by omega
            subst hke
            rw [List.take_of_length_le (Nat.le_refl _), HMK.out.2.1] at hR
            have hTs := HNUM.out.1
            obtain ⟨d, hd⟩ : ∃ d, 8 * T.size - K = d := ⟨_, rfl⟩
            have hd8 : d < 8 := by omega
            have hKT : K ≤ 8 * T.size := by omega
            have hbE : bitsE T K (d : Int) = 0 := by unfold bitsE; rw [if_neg (by omega), if_neg (by omega)]
            have hbN : bitsN T K (d : Int) = 0 := by
              unfold bitsN
              rw [if_pos hbE, Int.toNat_natCast, peekN_all T K d (by omega), HNUM.out.2, Nat.div_eq_of_lt HMK.out.2.2]
              simp
            have HB := Lib.hid (And.intro hbE hbN)
            have d1 : (d : Int) % 8 = (d : Int) := by omega
            have d2 : (d : Int) < 8 := by omega
            have HD := Lib.hid hd
            clear hTs hbE hbN hd
            go_wp2_with fail
            refine (left_any A T K _ hR hsz hKT).mono ?_
            rw [HD.out]
            rintro e w6 ⟨rfl, n6, rfl⟩
            go_wp2_with fail
            refine (bits_any A T K (d : Int) _ (hR.to (Fr.drewN [] _ n6) (by simp)) hsz hKT).mono ?_
            rintro e w7 ⟨rfl, h7, f7⟩
            rw [HB.out.1, HB.out.2]
            have hB7 := f7.out ((Fr.drewN [] _ n6).out hB (by simp)) (by simp; omega)
            go_wp2_with fail
            refine (alive03 w7).mono ?_
            rintro e w8 ⟨rfl, hb⟩
            go_wp2_with fail
            go_ret
            exact ⟨rfl, (Fr.of_below (l := []) hb).out hB7 (by simp)⟩
end Go.Proofs.Ytlognooioemenaa
