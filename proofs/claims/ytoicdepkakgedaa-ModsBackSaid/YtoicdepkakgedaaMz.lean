/- The statement ModsBack: the walk of its Go function. -/
import Derived.Test.YtoicdepkakgedaaMw
namespace Go.Proofs.Ytoicdepkakgedaa
open Go.RowKit
set_option linter.unusedVariables false
set_option linter.unusedSimpArgs false

/-- At the operation: 'append(row, xs...)'. -/
theorem wpList_sl {P : Program} (B : Nat) (W w : World) {ops : Array Oper} {rest : List Oper} {o : Oper} {a : Act} {Q : Exit → Act → World → Prop} (hgd : Region.wanted o (yielded ops a.tmps) = true) (sl x : Operand) (t : TypeId)
    (ho : o.op = .call { callee := .builtin .append, args := #[sl, x], argTypes := #[t, t] })
    (e : TypeId) (E : Elem P t e 2 24) (v : Value) (n : Nat) (xs : List Value) (hs : a.eval sl = v) (hown : Hid (w.ownsRow B e 2 v n xs)) (hB : Hid (Below B W w)) (hBs : B ≤ w.heap.size) (a0 : Option Addr) (c : Nat) (l : List Md) (hx : a.eval x = .slice a0 l.length c) (hl : Hid (SlOf Md.enc 2 w a0 l)) (hb : n + l.length ≤ 1000000)
    (h : ∀ ao cap w', Hid (Appd B W w w' e 2 v (.slice ao (n + l.length) cap) (n + l.length) (xs ++ l.flatMap Md.enc)) → wpList P ops Q rest (a.put o.dst (.slice ao (n + l.length) cap)) w') : wpList P ops Q (o :: rest) a w := by
  refine wpList_step fun K hK => ?_
  rw [if_pos hgd]
  obtain ⟨v', w', hr, h2, h3⟩ := run_append_sl (P := P) w t o.type e E B v n xs hown.out a0 c l hl.out hb hBs
  unfold Oper.wp execOp
  simp only [ho, resolve, invoke, builtin, Sem.run_bind, Sem.run_pure, Result.andThen_ok, List.map_toArray, List.map_cons, List.map_nil, hs, hx, hr]
  have h2' := h2
  rcases h2'.2 with ⟨rfl, h0⟩ | ⟨g, cap, cur, rfl, _⟩
  · rw [show Value.slice none 0 0 = Value.slice none (n + l.length) 0 by rw [h0]]
    refine hK _ _ (h none 0 w' (Lib.hid ⟨?_, h3, below_grown hB.out h3 hBs (fun g' hg' => (hown.out.lt g' hg').1)⟩))
    rw [← show Value.slice none 0 0 = Value.slice none (n + l.length) 0 by rw [h0]]
    exact h2
  · exact hK _ _ (h _ cap w' (Lib.hid ⟨h2, h3, below_grown hB.out h3 hBs (fun g' hg' => (hown.out.lt g' hg').1)⟩))

set_option maxRecDepth 2000000 in
set_option maxHeartbeats 3200000 in
theorem back_ok (w : World) (a0 : Option Addr) (c0 : Nat) (l : List Md) (s0 : SlOf Md.enc 2 w a0 l) (a1 : Option Addr) (c1 : Nat) (m : List Md) (s1 : SlOf Md.enc 2 w a1 m) (z : Nat) (hz : z < 256) (at0 : Nat) (hat : at0 < 65536)
    (hl0 : ∀ W, SlOf Md.enc 2 W a0 l → Calls Try.prog 10 #[.slice a0 l.length c0] W fun e w' => e = .returned (.bool false) ∧ W = w')
    (hm0 : ∀ W, SlOf Md.enc 2 W a1 m → Calls Try.prog 10 #[.slice a1 m.length c1] W fun e w' => e = .returned (.bool false) ∧ W = w')
    (k1 : l.length ≤ 100) (k2 : sizeN l ≤ 33168) (k3 : m.length ≤ 100) (k4 : sizeN m ≤ 33168) (hal : allB (pgN z) l = true) (ham : allB (pgN z) m = true) :
    Calls Try.prog 4 #[.slice a0 l.length c0, .slice a1 m.length c1, .int .u8 (z : Int), .int .u16 (at0 : Int)] w fun e w' => e = .returned (.bool true) ∧ Below w.heap.size w w' := by
  obtain ⟨q, hq⟩ : ∃ q, z % 5 = q := ⟨_, rfl⟩
  have hq5 : q < 5 := by omega
  have hzq : (z : Int) % 5 = (q : Int) := by omega
  obtain ⟨hp, hp2, hp3⟩ := pgN_page z
  obtain ⟨n, hn⟩ : ∃ n, pgN z = n := ⟨_, rfl⟩
  have hnq : n = 1024 * 2 ^ q := by rw [← hn]; unfold pgN; rw [hq]
  rw [hn] at hal ham hp hp2 hp3
  have h40 : (1024 : Int) * 2 ^ q = (n : Int) := by rw [hnq]; simp
  have hnI : (n : Int) ≤ 16384 := by omega
  have hqI : (q : Int) ≤ 4 := by omega
  obtain ⟨a, ha⟩ : ∃ a, encS n l = a := ⟨_, rfl⟩
  obtain ⟨b, hb⟩ : ∃ b, encS n m = b := ⟨_, rfl⟩
  obtain ⟨f1, f2, f3, f4, f5, f6, f7, f8, f9, f10⟩ := back_facts n l m hp hal ham a b ha hb
  obtain ⟨sz, hsz⟩ : ∃ sz, sizeN l = sz := ⟨_, rfl⟩
  obtain ⟨k, hk⟩ : ∃ k, at0 % (sz + 1) = k := ⟨_, rfl⟩
  have hkI : (at0 : Int) % ((sz : Int) + 1) = (k : Int) := by rw [← hk]; simp
  have hksz : k ≤ sz := by have := Nat.mod_lt at0 (show 0 < sz + 1 by omega); omega
  obtain ⟨g1, g2⟩ := f10 k (by omega)
  obtain ⟨be, hbe⟩ : ∃ be, endsB l k = be := ⟨_, rfl⟩
  rw [hbe] at g1 g2
  obtain ⟨bb, hbb⟩ : ∃ bb : Bool, decide (l = m) = bb := ⟨_, rfl⟩
  rw [hbb] at f7
  have hbeq := beq_toList a b bb f7
  obtain ⟨ab, hab⟩ : ∃ ab, a ++ b = ab := ⟨_, rfl⟩
  rw [hab] at f5 f6
  have sab : ab.size = a.size + b.size := by rw [← hab, ByteArray.size_append]
  have hadd : ∀ W, (Op.stringOp .add a b).run Try.prog W = .ok (.string ab) W := fun W => by rw [← hab]; exact run_string_add_sum (P := Try.prog) W a b (by omega)
  obtain ⟨ak, hak⟩ : ∃ ak, a.extract 0 k = ak := ⟨_, rfl⟩
  rw [hak] at g1 g2
  have hslc : ∀ W, (Instr.slice 9 (.string a) none (some (.int .i64 (k : Int))) none).run Try.prog W = .ok (.string ak) W := fun W => by
    have := run_slice_string_h (P := Try.prog) (w := W) 9 a Try.underlying9 .i64 (k : Int) (by omega) (by omega)
    simpa [hak] using this
  have sak : ak.size ≤ 33168 := by rw [← hak]; simp; omega
  have hE0 : ∀ W, SlOf Md.enc 2 W a0 l → Calls Try.prog 12 #[.int .i64 (n : Int), .slice a0 l.length c0] W fun e w' => e = .returned (.tuple #[.string a, .int .i64 0]) ∧ Fr [] W w' := fun W h => by
    have := encode_any n a0 c0 l W h (by omega) (by omega)
    rw [ha, f1] at this; exact this
  have hE1 : ∀ W, SlOf Md.enc 2 W a1 m → Calls Try.prog 12 #[.int .i64 (n : Int), .slice a1 m.length c1] W fun e w' => e = .returned (.tuple #[.string b, .int .i64 0]) ∧ Fr [] W w' := fun W h => by
    have := encode_any n a1 c1 m W h (by omega) (by omega)
    rw [hb, f2] at this; exact this
  have hD0 : ∀ W, Calls Try.prog 22 #[.int .i64 (n : Int), .string a] W fun e w' => ∃ p c, e = .returned (.tuple #[.slice p l.length c, .int .i64 0]) ∧ SlOf Md.enc 2 w' p l ∧ Fr [] W w' := fun W => by
    refine (decode_any n a W (by omega)).mono ?_
    rintro e w' ⟨v, rfl, h1, h2⟩
    rw [f3] at h1
    rw [f4]
    obtain ⟨p, c, rfl, h3⟩ := slOf_own md_len h1 rfl
    exact ⟨p, c, rfl, h3, h2⟩
  have hD1 : ∀ W, Calls Try.prog 22 #[.int .i64 (n : Int), .string ab] W fun e w' => ∃ p c, e = .returned (.tuple #[.slice p (l ++ m).length c, .int .i64 0]) ∧ SlOf Md.enc 2 w' p (l ++ m) ∧ Fr [] W w' := fun W => by
    refine (decode_any n ab W (by omega)).mono ?_
    rintro e w' ⟨v, rfl, h1, h2⟩
    rw [f5] at h1
    rw [f6]
    obtain ⟨p, c, rfl, h3⟩ := slOf_own md_len h1 rfl
    exact ⟨p, c, rfl, h3, h2⟩
  obtain ⟨er, her⟩ : ∃ er : Int, (if be then 0 else 7) = er := ⟨_, rfl⟩
  have hD2 : ∀ W, Calls Try.prog 22 #[.int .i64 (n : Int), .string ak] W fun e w' => ∃ p zl c, e = .returned (.tuple #[.slice p zl c, .int .i64 er]) ∧ (be = false → zl = 0) ∧ zl ≤ 100000 ∧ Fr [] W w' := fun W => by
    refine (decode_any n ak W (by omega)).mono ?_
    rintro e w' ⟨v, rfl, h1, h2⟩
    rw [g1, her]
    obtain ⟨p, c, rfl, h3⟩ := slOf_own md_len h1 rfl
    exact ⟨p, _, c, rfl, fun h => by rw [g2 h]; rfl, by have := length_sizeN (decV n ak); have := decV_size n ak; omega, h2⟩
  have hS0 : ∀ W p c, SlOf Md.enc 2 W p l → SlOf Md.enc 2 W a0 l → Calls Try.prog 23 #[.slice p l.length c, .slice a0 l.length c0] W fun e w' => e = .returned (.bool true) ∧ Fr [] W w' := fun W p c h k => by
    have := same_any p a0 c c0 l l W h k (by omega) (by omega)
    rw [decide_eq_true rfl] at this; exact this
  have hS1 : ∀ W p c r d, SlOf Md.enc 2 W p (l ++ m) → SlOf Md.enc 2 W r (l ++ m) → Calls Try.prog 23 #[.slice p (l.length + m.length : Nat) c, .slice r (l.length + m.length : Nat) d] W fun e w' => e = .returned (.bool true) ∧ Fr [] W w' := fun W p c r d h k => by
    have := same_any p r c d (l ++ m) (l ++ m) W h k (by simp; omega) (by simp; omega)
    rw [decide_eq_true rfl, List.length_append] at this; exact this
  have hS2 : ∀ W, SlOf Md.enc 2 W a0 l → SlOf Md.enc 2 W a1 m → Calls Try.prog 23 #[.slice a0 l.length c0, .slice a1 m.length c1] W fun e w' => e = .returned (.bool bb) ∧ Fr [] W w' := fun W h k => by
    have := same_any a0 a1 c0 c1 l m W h k (by omega) (by omega)
    rw [hbb] at this; exact this
  have hZ : ∀ W, SlOf Md.enc 2 W a0 l → Calls Try.prog 20 #[.slice a0 l.length c0] W fun e w' => e = .returned (.int .i64 (sz : Int)) ∧ Fr [] W w' := fun W h => by
    have := size_any a0 c0 l W h (by omega) (by omega)
    rw [hsz] at this; exact this
  have H := Lib.hid (And.intro hl0 (And.intro hm0 (And.intro hE0 (And.intro hE1 (And.intro hD0 (And.intro hD1 (And.intro hD2 (And.intro hS0 (And.intro hS1 (And.intro hS2 hZ))))))))))
  have hasz : (a.size : Int) = (sz : Int) := by omega
  have hszI : (sz : Int) ≤ 33168 := by omega
  have hkI2 : (k : Int) ≤ 33168 := by omega
  have hatI : (at0 : Int) ≤ 65535 := by omega
  have hkA : (k : Int) ≤ (a.size : Int) := by omega
  have S := Lib.hid (And.intro s0 s1)
  have HF := Lib.hid (And.intro hadd (And.intro hslc (And.intro hbeq (And.intro hasz (And.intro hkI (And.intro hbe (And.intro hsz her)))))))
  have j0 : (l.length : Int) ≤ 100 := by omega
  have j1 : (m.length : Int) ≤ 100 := by omega
  have jlm : l.length + m.length ≤ 200 := by omega
  clear hl0 hm0 hE0 hE1 hD0 hD1 hD2 hS0 hS1 hS2 hZ s0 s1 hadd hslc hbeq hasz hkI hq hn hnq hp hp2 hp3 hal ham ha hb f1 f2 f3 f4 f5 f6 f7 f8 f9 f10 hsz her hk g1 g2 hbe hbb hab sab hak sak k1 k2 k3 k4 hz hat
  go_enter Try.func4, Try.ntmps4
  go_wp2_with fail
  refine (H.out.1 _ S.out.1).mono ?_
  rintro e w1 ⟨rfl, rfl⟩
  go_wp2_with fail
  refine (H.out.2.1 _ S.out.2).mono ?_
  rintro e w1 ⟨rfl, rfl⟩
  go_wp2_with fail
  refine (H.out.2.2.1 _ S.out.1).mono ?_
  rintro e w1 ⟨rfl, f1⟩
  have F1 := Lib.hid (And.intro f1 (S.out.2.below f1.below))
  clear f1
  go_wp2_with fail
  refine (H.out.2.2.2.1 _ F1.out.2).mono ?_
  rintro e w2 ⟨rfl, f2⟩
  have F2 := Lib.hid (F1.out.1.trans f2)
  clear f2
  go_wp2_with fail
  refine (H.out.2.2.2.2.1 _).mono ?_
  rintro e w3 ⟨x, xc, rfl, sx, f3⟩
  have F3 := Lib.hid (And.intro sx (F2.out.trans f3))
  clear sx f3
  have hadd := HF.out.1
  go_wp2_with fail
  clear hadd
  refine (H.out.2.2.2.2.2.1 _).mono ?_
  rintro e w4 ⟨y, yc, rfl, sy, f4⟩
  have F4 := Lib.hid (And.intro (F3.out.1.below f4.below) (And.intro sy (F3.out.2.trans f4)))
  clear sy f4
  go_wp2_with fail
  refine (H.out.2.2.2.2.2.2.2.1 _ _ _ F4.out.1 (S.out.1.below F4.out.2.2.below)).mono ?_
  rintro e w5 ⟨rfl, f5⟩
  have F5 := Lib.hid (And.intro (F4.out.2.1.below f5.below) (F4.out.2.2.trans f5))
  clear f5
  have SL : Hid (∀ W, Below w5.heap.size w5 W → SlOf Md.enc 2 W a0 l ∧ SlOf Md.enc 2 W a1 m ∧ SlOf Md.enc 2 W y (l ++ m)) := Lib.hid (fun W h => ⟨(S.out.1.below F5.out.2.below).below h, (S.out.2.below F5.out.2.below).below h, F5.out.1.below h⟩)
  have hown0 : Hid ((w5.alloc (.cells #[] 34)).ownsRow w5.heap.size 34 2 (.slice (some ⟨w5.heap.size, 0, none⟩) 0 0) 0 []) := Lib.hid (World.ownsRow_made (size := 2) w5 #[] 0 (Nat.le_refl _) (by decide) rfl)
  have hB0 : Hid (Below w5.heap.size w5 (w5.alloc (.cells #[] 34))) := Lib.hid (Fr.alloc [] w5 _).below
  have hBs0 : w5.heap.size ≤ (w5.alloc (.cells #[] 34)).heap.size := hB0.out.size
  have hl0 : Hid (SlOf Md.enc 2 (w5.alloc (.cells #[] 34)) a0 l) := Lib.hid (SL.out _ hB0.out).1
  go_wp2_with (first | (at_builtin; (refine wpList_sl w5.heap.size w5 (w5.alloc (.cells #[] 34)) rfl (.tmp 82) (.tmp 83) 22 rfl 34 elemM (.slice (some ⟨w5.heap.size, 0, none⟩) 0 0) 0 [] rfl hown0 hB0 hBs0 a0 c0 l rfl hl0 (by omega) ?_; intro ao cap w6 HA; have hown1 : Hid (w6.ownsRow w5.heap.size 34 2 (.slice ao l.length cap) l.length (l.flatMap Md.enc)) := (by have := HA.out.own; rw [Nat.zero_add] at this; exact Lib.hid this); have hB1 := Lib.hid HA.out.below; have hBs1 : w5.heap.size ≤ w6.heap.size := hB1.out.size; have hm0 := Lib.hid (SL.out _ hB1.out).2.1)) | (at_builtin; (refine wpList_sl w5.heap.size w5 w6 rfl (.tmp 84) (.tmp 85) 22 rfl 34 elemM _ _ _ rfl hown1 hB1 hBs1 a1 c1 m rfl hm0 (by omega) ?_; intro ao2 cap2 w7 HC; have HD := Lib.hid (And.intro HC.out.own HC.out.below); clear hown1 hB1 hBs1 hm0 HA HC hown0 hB0 hBs0 hl0)))
  have hr7 : SlOf Md.enc 2 w7 ao2 (l ++ m) := by
    have h := HD.out.1
    rw [← List.flatMap_append, ← List.length_append] at h
    obtain ⟨p, c, hv, h3⟩ := slOf_own md_len h rfl
    injection hv with h1 h2 h4
    rw [h1]; exact h3
  refine (H.out.2.2.2.2.2.2.2.2.1 _ _ _ _ _ (SL.out _ HD.out.2).2.2 hr7).mono ?_
  rintro e w8 ⟨rfl, f8⟩
  have F8 := Lib.hid (f8.out HD.out.2 (by simp))
  clear f8 hr7
  have hbeq := HF.out.2.2.1
  go_wp2_with fail
  clear hbeq
  refine (H.out.2.2.2.2.2.2.2.2.2.1 _ (SL.out _ F8.out).1 (SL.out _ F8.out).2.1).mono ?_
  rintro e w9 ⟨rfl, f9⟩
  have F9 := Lib.hid (f9.out F8.out (by simp))
  clear f9
  go_wp2_with fail
  refine (H.out.2.2.2.2.2.2.2.2.2.2 _ (SL.out _ F9.out).1).mono ?_
  rintro e w10 ⟨rfl, f10⟩
  have F10 := Lib.hid (f10.out F9.out (by simp))
  clear f10
  have hasz := HF.out.2.2.2.1
  have hkI := HF.out.2.2.2.2.1
  have hslc := HF.out.2.1
  go_wp2_with fail
  clear hasz hkI hslc
  refine (H.out.2.2.2.2.2.2.1 _).mono ?_
  rintro e w11 ⟨z', zl, zc, rfl, hz1, hz2, f11⟩
  have F11 := Lib.hid (And.intro (f11.out F10.out (by simp)) hz1)
  clear f11 hz1
  go_wp2_with fail
  rw [HF.out.2.2.2.2.1]
  go_loopw [21, 22, 23] (fun en n i wr => ∃ j : Nat, j ≤ l.length ∧ i = .int .i64 j ∧ n = .int .i64 (sizeN (l.take j)) ∧ en = .bool (endsJ l k j) ∧ Below w5.heap.size w5 wr) (fun _ _ i _ => l.length - (intOf i).toNat)
  case atStart =>
    refine ⟨0, Nat.zero_le _, rfl, rfl, ?_, F11.out.1⟩
    rw [endsJ_zero]
    congr 1
    rw [Bool.eq_iff_iff, decide_eq_true_eq, beq_iff_eq]
    omega
  case round =>
    obtain ⟨j, hj, rfl, rfl, rfl, hB⟩ := hrel
    by_cases hjl : j < l.length
    · obtain ⟨⟨at_, tx⟩, hm⟩ : ∃ m', l[j]? = some m' := ⟨l[j], List.getElem?_eq_getElem hjl⟩
      obtain ⟨b', o, rfl, hbl, hcell⟩ := (SL.out _ hB).1 (by intro h; rw [h] at hm; simp at hm)
      have c0 := hcell j _ hm 0 (.int .i64 at_) rfl
      have c1 := hcell j _ hm 1 (.string tx) rfl
      simp only [Nat.add_zero] at c0 c1
      rw [← Nat.add_assoc] at c1
      have hst := sizeN_take l j _ hm
      have hle := sizeN_le l (j + 1)
      have hes := endsJ_succ l k j
      simp only at hst
      have hsz1 : (tx.size : Int) ≤ 33168 := by have := HF.out.2.2.2.2.2.2.1; omega
      have hn1 : (sizeN (l.take j) : Int) ≤ 33168 := by have := HF.out.2.2.2.2.2.2.1; omega
      obtain ⟨u, hu⟩ : ∃ u, sizeN [⟨at_, tx⟩] = u := ⟨_, rfl⟩
      have hu2 : u = 4 + tx.size := by rw [← hu]; simp [sizeN]
      have hsum : (sizeN (l.take j) : Int) + (u : Int) = (sizeN (l.take (j + 1)) : Int) := by omega
      have hui : (u : Int) ≤ 33168 := by have := HF.out.2.2.2.2.2.2.1; omega
      have HZ := Lib.hid (fun W (h : SlOf Md.enc 2 W (some ⟨wr.heap.size, 0, none⟩) [⟨at_, tx⟩]) => by
        have := size_any _ 1 [⟨at_, tx⟩] W h (by simp) (by omega)
        rw [hu] at this; exact this)
      clear hu hu2
      obtain ⟨N', hN'⟩ : ∃ N', sizeN (l.take (j + 1)) = N' := ⟨_, rfl⟩
      rw [hN'] at hsum hst hes hle
      obtain ⟨N, hN⟩ : ∃ N, sizeN (l.take j) = N := ⟨_, rfl⟩
      rw [hN] at hsum hst hn1 ⊢
      obtain ⟨ej, hej⟩ : ∃ ej, endsJ l k j = ej := ⟨_, rfl⟩
      rw [hej] at hes ⊢
      have HJ := Lib.hid (And.intro hN' (And.intro hes (And.intro hst hsum)))
      have HW := Lib.hid (slOf_cells (l := [⟨at_, tx⟩]) md_len (new_of wr (.cells #[.int .i64 at_, .string tx] 34)) rfl : SlOf Md.enc 2 _ _ [⟨at_, tx⟩])
      have HB := Lib.hid ((Fr.alloc [] wr (.cells #[.int .i64 at_, .string tx] 34)).out hB (by simp))
      have hji : (j : Int) < (l.length : Int) := by omega
      clear hm hcell hst hle hes hsum hN hN' hej hB
      go_wp2_with fail
      clear c0 c1
      refine (HZ.out _ HW.out).mono ?_
      rintro e w12 ⟨rfl, f12⟩
      have F12 := Lib.hid (f12.out HB.out (by simp))
      clear f12
      have hsum := HJ.out.2.2.2
      cases ej with
      | true =>
        go_wp2_with fail
        go_roundw
        case rel => exact ⟨j + 1, by omega, by go_num, by rw [HJ.out.1], by rw [HJ.out.2.1]; rfl, F12.out⟩
        case measure => simp [intOf]; omega
      | false =>
        go_wp2_with fail
        go_roundw
        case rel =>
          refine ⟨j + 1, by omega, by go_num, by rw [HJ.out.1], ?_, F12.out⟩
          rw [HJ.out.2.1]
          congr 1
          rw [Bool.eq_iff_iff, beq_iff_eq, Bool.false_or, decide_eq_true_eq]
          omega
        case measure => simp [intOf]; omega
    · have hje : j = l.length := by omega
      subst hje
      have hen : endsJ l k l.length = be := by rw [endsJ_all]; exact HF.out.2.2.2.2.2.1
      have hN : sizeN (l.take l.length) = sz := by rw [List.take_length]; exact HF.out.2.2.2.2.2.2.1
      rw [hen, hN]
      have hBF := Lib.hid (F5.out.2.below.trans (hB.mono F5.out.2.size))
      clear hen hN hB
      obtain ⟨be', hbe'⟩ : ∃ be', be = be' := ⟨_, rfl⟩
      have her := HF.out.2.2.2.2.2.2.2
      have hz1 := F11.out.2
      cases be with
      | true =>
        subst hbe'
        obtain rfl : er = 0 := her.symm
        clear her hz1
        go_wp2_with fail
        refine (alive_any _).mono ?_
        rintro e w9 ⟨rfl, f9⟩
        go_wp2_with fail
        go_ret
        exact ⟨rfl, f9.out hBF.out (by simp)⟩
      | false =>
        subst hbe'
        obtain rfl : er = 7 := her.symm
        obtain rfl : zl = 0 := hz1 rfl
        clear her hz1
        go_wp2_with fail
        refine (alive_any _).mono ?_
        rintro e w9 ⟨rfl, f9⟩
        go_wp2_with fail
        go_ret
        exact ⟨rfl, f9.out hBF.out (by simp)⟩

set_option maxRecDepth 2000000 in
set_option maxHeartbeats 3200000 in
/-- One of the lists isn't to be told. -/
theorem back_no (w : World) (a0 : Option Addr) (c0 : Nat) (l : List Md) (s0 : SlOf Md.enc 2 w a0 l) (a1 : Option Addr) (c1 : Nat) (m : List Md) (s1 : SlOf Md.enc 2 w a1 m) (z : Nat) (hz : z < 256) (at0 : Nat) (hat : at0 < 65536)
    (hl0 : ∀ W, SlOf Md.enc 2 W a0 l → Calls Try.prog 10 #[.slice a0 l.length c0] W fun e w' => e = .returned (.bool false) ∧ W = w')
    (hm0 : ∀ W, SlOf Md.enc 2 W a1 m → Calls Try.prog 10 #[.slice a1 m.length c1] W fun e w' => e = .returned (.bool false) ∧ W = w')
    (k1 : l.length ≤ 100) (k2 : sizeN l ≤ 33168) (k3 : m.length ≤ 100) (k4 : sizeN m ≤ 33168) (hal : (allB (pgN z) l && allB (pgN z) m) = false) :
    Calls Try.prog 4 #[.slice a0 l.length c0, .slice a1 m.length c1, .int .u8 (z : Int), .int .u16 (at0 : Int)] w fun e w' => e = .returned (.bool true) ∧ Below w.heap.size w w' := by
  obtain ⟨q, hq⟩ : ∃ q, z % 5 = q := ⟨_, rfl⟩
  have hq5 : q < 5 := by omega
  have hzq : (z : Int) % 5 = (q : Int) := by omega
  obtain ⟨hp, hp2, hp3⟩ := pgN_page z
  obtain ⟨n, hn⟩ : ∃ n, pgN z = n := ⟨_, rfl⟩
  have hnq : n = 1024 * 2 ^ q := by rw [← hn]; unfold pgN; rw [hq]
  rw [hn] at hal hp hp2 hp3
  have h40 : (1024 : Int) * 2 ^ q = (n : Int) := by rw [hnq]; simp
  have hnI : (n : Int) ≤ 16384 := by omega
  have hqI : (q : Int) ≤ 4 := by omega
  have hE0 : ∀ W, SlOf Md.enc 2 W a0 l → Calls Try.prog 12 #[.int .i64 (n : Int), .slice a0 l.length c0] W fun e w' => e = .returned (.tuple #[.string (encS n l), .int .i64 (encE n l)]) ∧ Fr [] W w' := fun W h => encode_any n a0 c0 l W h (by omega) (by omega)
  have hE1 : ∀ W, SlOf Md.enc 2 W a1 m → Calls Try.prog 12 #[.int .i64 (n : Int), .slice a1 m.length c1] W fun e w' => e = .returned (.tuple #[.string (encS n m), .int .i64 (encE n m)]) ∧ Fr [] W w' := fun W h => encode_any n a1 c1 m W h (by omega) (by omega)
  have he : (encE n l = 2) ∨ (encE n l = 0 ∧ encE n m = 2) := by
    unfold encE
    cases h1 : allB n l <;> cases h2 : allB n m <;> rw [h1, h2] at hal <;> simp at hal <;> simp
  generalize encE n l = e0 at *
  generalize encE n m = e1 at *
  generalize encS n l = a at *
  generalize encS n m = b at *
  have H := Lib.hid (And.intro hl0 (And.intro hm0 (And.intro hE0 hE1)))
  have S := Lib.hid (And.intro s0 s1)
  clear hl0 hm0 hE0 hE1 s0 s1 hq hn hnq hp hp2 hp3 hal k1 k2 k3 k4 hz hat
  rcases he with rfl | ⟨rfl, rfl⟩
  all_goals
    go_enter Try.func4, Try.ntmps4
    go_wp2_with fail
    refine (H.out.1 _ S.out.1).mono ?_
    rintro e w1 ⟨rfl, rfl⟩
    go_wp2_with fail
    refine (H.out.2.1 _ S.out.2).mono ?_
    rintro e w1 ⟨rfl, rfl⟩
    go_wp2_with fail
    refine (H.out.2.2.1 _ S.out.1).mono ?_
    rintro e w1 ⟨rfl, f1⟩
    have F1 := Lib.hid (And.intro f1 (S.out.2.below f1.below))
    clear f1
    go_wp2_with fail
    refine (H.out.2.2.2 _ F1.out.2).mono ?_
    rintro e w2 ⟨rfl, f2⟩
    have F2 := Lib.hid (F1.out.1.trans f2)
    clear f2
    go_wp2_with fail
    refine (alive_any _).mono ?_
    rintro e w9 ⟨rfl, f9⟩
    go_wp2_with fail
    go_ret
    exact ⟨rfl, (F2.out.trans f9).below⟩

set_option maxRecDepth 2000000 in
set_option maxHeartbeats 3200000 in
theorem modsBack_walk (w : World) (a0 : Option Addr) (c0 : Nat) (x0 : List Md) (l0 : x0.length ≤ maxLen) (s0 : SlOf Md.enc Md.sz w a0 x0) (o0 : ∀ x, x ∈ x0 → x.ok) (a1 : Option Addr) (c1 : Nat) (x1 : List Md) (l1 : x1.length ≤ maxLen) (s1 : SlOf Md.enc Md.sz w a1 x1) (o1 : ∀ x, x ∈ x1 → x.ok)
    (a2 : Int) (w2 : (Lit.int .u8 a2).wf = true) (a3 : Int) (w3 : (Lit.int .u16 a3).wf = true) :
    Calls Try.prog 4 #[.slice a0 x0.length c0, .slice a1 x1.length c1, .int .u8 a2, .int .u16 a3] w fun e w' => e = .returned (.bool true) ∧ Below w.heap.size w w' := by
  have HL0 := fun W (h : SlOf Md.enc 2 W a0 x0) => long_any a0 c0 x0 W h l0 (fun m hm => (o0 m hm).2)
  have HL1 := fun W (h : SlOf Md.enc 2 W a1 x1) => long_any a1 c1 x1 W h l1 (fun m hm => (o1 m hm).2)
  obtain ⟨z, rfl⟩ := u8_of w2
  obtain ⟨at0, rfl, hat⟩ := u16_of w3
  cases hlong : longB x0 with
  | true =>
    rw [hlong] at HL0
    have H := Lib.hid (And.intro HL0 HL1)
    have S := Lib.hid (And.intro s0 s1)
    clear HL0 HL1 s0 s1 hlong l0 l1 o0 o1 w2 w3 hat
    go_enter Try.func4, Try.ntmps4
    go_wp2_with fail
    refine (H.out.1 _ S.out.1).mono ?_
    rintro e w1 ⟨rfl, rfl⟩
    go_wp2_with fail
    refine (alive_any _).mono ?_
    rintro e w9 ⟨rfl, f9⟩
    go_wp2_with fail
    go_ret
    exact ⟨rfl, f9.below⟩
  | false =>
    rw [hlong] at HL0
    cases hlong1 : longB x1 with
    | true =>
      rw [hlong1] at HL1
      have H := Lib.hid (And.intro HL0 HL1)
      have S := Lib.hid (And.intro s0 s1)
      clear HL0 HL1 s0 s1 hlong hlong1 l0 l1 o0 o1 w2 w3 hat
      go_enter Try.func4, Try.ntmps4
      go_wp2_with fail
      refine (H.out.1 _ S.out.1).mono ?_
      rintro e w1 ⟨rfl, rfl⟩
      go_wp2_with fail
      refine (H.out.2 _ S.out.2).mono ?_
      rintro e w1 ⟨rfl, rfl⟩
      go_wp2_with fail
      refine (alive_any _).mono ?_
      rintro e w9 ⟨rfl, f9⟩
      go_wp2_with fail
      go_ret
      exact ⟨rfl, f9.below⟩
    | false =>
      rw [hlong1] at HL1
      obtain ⟨k1, _, k2⟩ := longB_no hlong
      obtain ⟨k3, _, k4⟩ := longB_no hlong1
      have hzz : ((z.toNat : Nat) : Int) = ((z.toNat : Nat) : Int) := rfl
      cases hb : (allB (pgN z.toNat) x0 && allB (pgN z.toNat) x1) with
      | false => exact back_no w a0 c0 x0 s0 a1 c1 x1 s1 z.toNat z.toNat_lt at0 hat HL0 HL1 k1 k2 k3 k4 hb
      | true =>
        rw [Bool.and_eq_true] at hb
        exact back_ok w a0 c0 x0 s0 a1 c1 x1 s1 z.toNat z.toNat_lt at0 hat HL0 HL1 k1 k2 k3 k4 hb.1 hb.2
end Go.Proofs.Ytoicdepkakgedaa
