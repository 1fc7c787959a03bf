/- Slices of tokens, and of what tokens are made of, that come in. The statements' tokens that may be, one behind the other. -/
import Derived.Test.YtciejmlhdmjajaaKEd
import Derived.Test.YtciejmlhdmjajaaKSo
import Derived.Test.YtciejmlhdmjajaaKEj
import Derived.Test.YtciejmlhdmjajaaKOy
namespace Go.Proofs.Ytciejmlhdmjajaa
open Go.RowKit
set_option linter.unusedVariables false
set_option linter.unusedSimpArgs false

structure RawT where
  lit : Nat
  len : Nat
  dist : Nat
def RawT.ok (t : RawT) : Prop := t.lit < 256 ∧ t.len < 65536 ∧ t.dist < 65536
def RawT.enc (t : RawT) : List Value := [.int .u8 (t.lit : Int), .int .u16 (t.len : Int), .int .u16 (t.dist : Int)]
def RawT.sz : Nat := 3
set_option maxRecDepth 100000 in
theorem open_toks {H : Type} {henc : TypeId × Value → H} {w : World} {v : Value} {d : DataW H} {ps : List MemPlace} {b0 : Nat} {r : Reach}
    (hval : Value.okWide Try.prog w r b0 22 v) (hd : DataW.Trod henc Try.prog w 0 (fun _ => true) true 22 v d ps) :
    ∃ a0 cap, ∃ xs : List Tok, v = .slice a0 xs.length cap ∧ xs.length ≤ maxLen ∧ SlOf Tok.enc Tok.sz w a0 xs ∧ ∀ x, x ∈ xs → x.ok := by
  refine open_structs Tok.enc Tok.ok Try.underlying22 Try.underlying66 (by kernel_rfl) (by kernel_rfl) (by decide) hval hd (fun _ => rfl) (fun a n ⟨ys, hf⟩ => ?_)
  obtain ⟨v0, y0, c0, _, t0⟩ := hf 0 _ rfl
  obtain ⟨v1, y1, c1, _, t1⟩ := hf 1 _ rfl
  obtain ⟨v2, y2, c2, _, t2⟩ := hf 2 _ rfl
  obtain ⟨n0, e0, _, g0⟩ := DataW.trod_int Try.underlying5 t0
  obtain ⟨n1, e1, _, g1⟩ := DataW.trod_int Try.underlying3 t1
  obtain ⟨n2, e2, _, g2⟩ := DataW.trod_int Try.underlying3 t2
  simp only [List.cons.injEq, and_true] at e0 e1 e2
  subst e0 e1 e2
  have hb := bounds_u8 g0
  obtain ⟨m, rfl⟩ : ∃ m : Nat, n0 = (m : Int) := ⟨n0.toNat, by omega⟩
  refine ⟨⟨m, n1, n2⟩, ⟨by simp only; omega, bounds_i64 g1, bounds_i64 g2⟩, fun j u hu => ?_⟩
  match j, hu with
  | 0, hu => simp [Tok.enc] at hu; subst hu; exact c0
  | 1, hu => simp [Tok.enc] at hu; subst hu; exact c1
  | 2, hu => simp [Tok.enc] at hu; subst hu; exact c2
  | j + 3, hu => simp [Tok.enc] at hu
set_option maxRecDepth 100000 in
theorem open_tok {H : Type} {henc : TypeId × Value → H} {w : World} {v : Value} {d : DataW H} {ps : List MemPlace} {b0 : Nat} {r : Reach}
    (hval : Value.okWide Try.prog w r b0 22 v) (hd : DataW.Trod henc Try.prog w 0 (fun _ => true) true 22 v d ps) :
    ∃ a0 cap, ∃ xs : List Tok, v = .slice a0 xs.length cap ∧ xs.length ≤ maxLen ∧ SlOf Tok.enc Tok.sz w a0 xs ∧ ∀ x, x ∈ xs → x.ok := open_toks hval hd
set_option maxRecDepth 100000 in
theorem open_raws {H : Type} {henc : TypeId × Value → H} {w : World} {v : Value} {d : DataW H} {ps : List MemPlace} {b0 : Nat} {r : Reach}
    (hval : Value.okWide Try.prog w r b0 35 v) (hd : DataW.Trod henc Try.prog w 0 (fun _ => true) true 35 v d ps) :
    ∃ a0 cap, ∃ xs : List RawT, v = .slice a0 xs.length cap ∧ xs.length ≤ maxLen ∧ SlOf RawT.enc RawT.sz w a0 xs ∧ ∀ x, x ∈ xs → x.ok := by
  refine open_structs RawT.enc RawT.ok Try.underlying35 Try.underlying74 (by kernel_rfl) (by kernel_rfl) (by decide) hval hd (fun _ => rfl) (fun a n ⟨ys, hf⟩ => ?_)
  obtain ⟨v0, y0, c0, _, t0⟩ := hf 0 _ rfl
  obtain ⟨v1, y1, c1, _, t1⟩ := hf 1 _ rfl
  obtain ⟨v2, y2, c2, _, t2⟩ := hf 2 _ rfl
  obtain ⟨n0, e0, _, g0⟩ := DataW.trod_int Try.underlying5 t0
  obtain ⟨n1, e1, _, g1⟩ := DataW.trod_int Try.underlying42 t1
  obtain ⟨n2, e2, _, g2⟩ := DataW.trod_int Try.underlying42 t2
  simp only [List.cons.injEq, and_true] at e0 e1 e2
  subst e0 e1 e2
  have hb := bounds_u8 g0
  have hc : 0 ≤ n1 ∧ n1 ≤ 65535 := by simp [Lit.wf, IntKind.min, IntKind.max, IntKind.signed, IntKind.bits] at g1; omega
  have hd : 0 ≤ n2 ∧ n2 ≤ 65535 := by simp [Lit.wf, IntKind.min, IntKind.max, IntKind.signed, IntKind.bits] at g2; omega
  obtain ⟨m, rfl⟩ : ∃ m : Nat, n0 = (m : Int) := ⟨n0.toNat, by omega⟩
  obtain ⟨m1, rfl⟩ : ∃ m : Nat, n1 = (m : Int) := ⟨n1.toNat, by omega⟩
  obtain ⟨m2, rfl⟩ : ∃ m : Nat, n2 = (m : Int) := ⟨n2.toNat, by omega⟩
  refine ⟨⟨m, m1, m2⟩, ⟨by simp only; omega, by simp only; omega, by simp only; omega⟩, fun j u hu => ?_⟩
  match j, hu with
  | 0, hu => simp [RawT.enc] at hu; subst hu; exact c0
  | 1, hu => simp [RawT.enc] at hu; subst hu; exact c1
  | 2, hu => simp [RawT.enc] at hu; subst hu; exact c2
  | j + 3, hu => simp [RawT.enc] at hu
end Go.Proofs.Ytciejmlhdmjajaa
namespace Go.Proofs.Ytciejmlhdmjajaa
open Go.RowKit
set_option linter.unusedVariables false
set_option linter.unusedSimpArgs false

def RawT.tok (r : RawT) (n : Nat) : Tok := if r.len % 4 = 0 ∨ n = 0 then ⟨r.lit, 0, 0⟩ else ⟨0, ((3 + r.len % 256 : Nat) : Int), ((1 + r.dist % min n 32768 : Nat) : Int)⟩
def Tok.wide (t : Tok) : Nat := max t.len.toNat 1
def madeL : Nat → List RawT → List Tok
  | _, [] => []
  | n, r :: l => r.tok n :: madeL (n + (r.tok n).wide) l
theorem tok_ok (r : RawT) (h : r.ok) (n : Nat) : (r.tok n).ok ∧ (r.tok n).may = true ∧ (r.tok n).wide ≤ 258 ∧ 1 ≤ (r.tok n).wide := by
  obtain ⟨h1, h2, h3⟩ := h
  unfold RawT.tok
  split
  · refine ⟨⟨h1, by simp only; omega, by simp only; omega⟩, by unfold Tok.may; simp, by unfold Tok.wide; simp only; omega, by unfold Tok.wide; simp only; omega⟩
  · rename_i hn
    have h4 : r.dist % min n 32768 < min n 32768 := Nat.mod_lt _ (by omega)
    generalize r.dist % min n 32768 = d at h4 ⊢
    refine ⟨⟨by simp only; omega, by simp only; omega, by simp only; omega⟩, ?_, by unfold Tok.wide; simp only; omega, by unfold Tok.wide; simp only; omega⟩
    unfold Tok.may
    rw [if_neg (by simp only; omega)]
    exact decide_eq_true ⟨by simp only; omega, by simp only; omega, by simp only; omega, by simp only; omega, rfl⟩
theorem madeL_len : ∀ (l : List RawT) (n : Nat), (madeL n l).length = l.length
  | [], _ => rfl
  | r :: l, n => by simp only [madeL, List.length_cons, madeL_len l]
theorem madeL_ok : ∀ (l : List RawT) (n : Nat), (∀ r ∈ l, r.ok) → ∀ t ∈ madeL n l, t.ok ∧ t.may = true
  | [], _, _, t, ht => by cases ht
  | r :: l, n, h, t, ht => by
    rcases List.mem_cons.1 ht with rfl | ht
    · have := tok_ok r (h r (by simp)) n; exact ⟨this.1, this.2.1⟩
    · exact madeL_ok l _ (fun x hx => h x (by simp [hx])) t ht
def madeN : Nat → List RawT → Nat
  | n, [] => n
  | n, r :: l => madeN (n + (r.tok n).wide) l
theorem made_snoc : ∀ (l : List RawT) (r : RawT) (n : Nat), madeL n (l ++ [r]) = madeL n l ++ [r.tok (madeN n l)] ∧ madeN n (l ++ [r]) = madeN n l + (r.tok (madeN n l)).wide
  | [], r, n => ⟨rfl, rfl⟩
  | q :: l, r, n => by
    obtain ⟨h1, h2⟩ := made_snoc l r (n + (q.tok n).wide)
    exact ⟨by simp only [List.cons_append, madeL, h1, madeN], by simp only [List.cons_append, madeN, h2]⟩
theorem madeN_le : ∀ (l : List RawT) (n : Nat), (∀ r ∈ l, r.ok) → madeN n l ≤ n + 258 * l.length
  | [], n, _ => by simp [madeN]
  | r :: l, n, h => by
    have h1 := madeN_le l (n + (r.tok n).wide) fun x hx => h x (by simp [hx])
    have h2 := (tok_ok r (h r (by simp)) n).2.2.1
    simp only [madeN, List.length_cons]
    omega
theorem tokElem : Elem Try.prog 22 66 3 24 := by
  refine ⟨Try.underlying22, ?_⟩
  obtain ⟨i, h1, h2, h3, h4⟩ := info_parts (show (Try.prog.info? 66).map (fun i => (i.zero, i.size, i.bytes)) = some (some (.agg #[.int .u8 0, .int .i64 0, .int .i64 0]), 3, 24) by kernel_rfl)
  exact ⟨i, _, h1, h2, h3, h4, rfl, by omega⟩
set_option maxRecDepth 100000 in
set_option maxHeartbeats 3200000 in
theorem token_ok (r : RawT) (n : Nat) (w : World) (h : r.ok) (hn : n ≤ 1000000000) :
    Calls Try.prog 31 #[.agg #[.int .u8 (r.lit : Int), .int .u16 (r.len : Int), .int .u16 (r.dist : Int)], .int .i64 (n : Int)] w fun e w' => e = .returned (r.tok n).val ∧ Fr [] w w' := by
  obtain ⟨lit, len, dist⟩ := r
  obtain ⟨h1, h2, h3⟩ := h
  simp only at h1 h2 h3 ⊢
  have h1i : (lit : Int) ≤ 255 := by omega
  have h2i : (len : Int) ≤ 65535 := by omega
  have h3i : (dist : Int) ≤ 65535 := by omega
  have hni : (n : Int) ≤ 1000000000 := by omega
  obtain ⟨m, hm⟩ : ∃ m, len % 4 = m := ⟨_, rfl⟩
  have em : (len : Int) % 4 = (m : Int) := by omega
  by_cases hz : m = 0
  · subst hz
    have HE := Lib.hid (show (RawT.mk lit len dist).tok n = ⟨lit, 0, 0⟩ by unfold RawT.tok; rw [if_pos (.inl hm)])
    clear h1 h2 h3 hn hm
    go_enter Try.func31, Try.ntmps31
    go_wp2_with fail
    rw [HE.out]
    (try simp only [Exit.inBlock, Exit.then])
    refine bodyPost_ret (results_cell_row rfl _ _ (w.heap.size + 1) 66 #[.int .u8 (lit : Int), .int .i64 0, .int .i64 0] _ _ rfl (by have := alloc_last (w.alloc (.cells #[.int .u8 (lit : Int), .int .u16 (len : Int), .int .u16 (dist : Int)] 74)) (.cells #[.int .u8 (lit : Int), .int .i64 0, .int .i64 0] 66); simpa using this) Try.underlying66 rfl (by kernel_rfl)) rfl ?_
    exact ⟨rfl, (Fr.alloc _ _ _).trans (Fr.alloc _ _ _)⟩
  · have hmi : ((m : Int) == 0) = false := by rw [beq_eq_false_iff_ne]; omega
    by_cases hn0 : n = 0
    · subst hn0
      have HE := Lib.hid (show (RawT.mk lit len dist).tok 0 = ⟨lit, 0, 0⟩ by unfold RawT.tok; rw [if_pos (.inr rfl)])
      clear h1 h2 h3 hn hm hz
      go_enter Try.func31, Try.ntmps31
      go_wp2_with fail
      rw [HE.out]
      (try simp only [Exit.inBlock, Exit.then])
      refine bodyPost_ret (results_cell_row rfl _ _ (w.heap.size + 1) 66 #[.int .u8 (lit : Int), .int .i64 0, .int .i64 0] _ _ rfl (by have := alloc_last (w.alloc (.cells #[.int .u8 (lit : Int), .int .u16 (len : Int), .int .u16 (dist : Int)] 74)) (.cells #[.int .u8 (lit : Int), .int .i64 0, .int .i64 0] 66); simpa using this) Try.underlying66 rfl (by kernel_rfl)) rfl ?_
      exact ⟨rfl, (Fr.alloc _ _ _).trans (Fr.alloc _ _ _)⟩
    · have hnb : ((n : Int) == 0) = false := by rw [beq_eq_false_iff_ne]; omega
      have HE := Lib.hid (show (RawT.mk lit len dist).tok n = ⟨0, ((3 + len % 256 : Nat) : Int), ((1 + dist % min n 32768 : Nat) : Int)⟩ by unfold RawT.tok; rw [if_neg (by simp only; omega)])
      obtain ⟨M, hM⟩ : ∃ M, min n 32768 = M := ⟨_, rfl⟩
      have eM : min (n : Int) 32768 = (M : Int) := by omega
      have hM0 : 1 ≤ (M : Int) := by omega
      have hM1 : (M : Int) ≤ 32768 := by omega
      have hMb : ((M : Int) == 0) = false := by rw [beq_eq_false_iff_ne]; omega
      obtain ⟨d, hd⟩ : ∃ d, dist % M = d := ⟨_, rfl⟩
      have hdl : d < M := by rw [← hd]; exact Nat.mod_lt _ (by omega)
      have ed : (dist : Int) % (M : Int) = (d : Int) := by rw [← hd]; rfl
      have hdi : (d : Int) ≤ 32768 := by omega
      obtain ⟨u, hu⟩ : ∃ u, len % 256 = u := ⟨_, rfl⟩
      have eu : (len : Int) % 256 = (u : Int) := by omega
      have hui : (u : Int) ≤ 255 := by omega
      rw [hM, hd, hu] at HE
      clear h1 h2 h3 hn hm hz hn0 hM hd hdl hu
      go_enter Try.func31, Try.ntmps31
      go_wp2_with fail
      refine wp_region_quiet_tail 13 (by kernel_rfl) (by kernel_rfl) ?_
      simp only [List.take_succ_cons, List.take_zero, List.drop_succ_cons, List.drop_zero]
      repeat go_big_quiet_step (fail)
      refine wpQuiet_nil ?_
      go_wp2_with fail
      rw [HE.out]
      (try simp only [Exit.inBlock, Exit.then])
      refine bodyPost_ret (results_cell_row rfl _ _ (w.heap.size + 1) 66 #[.int .u8 0, .int .i64 (3 + (u : Int)), .int .i64 (1 + (d : Int))] _ _ rfl (by have := alloc_last (w.alloc (.cells #[.int .u8 (lit : Int), .int .u16 (len : Int), .int .u16 (dist : Int)] 74)) (.cells #[.int .u8 0, .int .i64 (3 + (u : Int)), .int .i64 (1 + (d : Int))] 66); rw [World.size_alloc] at this; exact this) Try.underlying66 rfl (by kernel_rfl)) rfl ?_
      exact ⟨by unfold Tok.val; simp, ((Fr.alloc _ _ _).trans (Fr.alloc _ _ _)).drew⟩
set_option maxRecDepth 100000 in
set_option maxHeartbeats 3200000 in
theorem made_ok (a : Option Addr) (c : Nat) (l : List RawT) (w : World) (hs : SlOf RawT.enc RawT.sz w a l) (hl : l.length ≤ 500) (hok : ∀ r ∈ l, r.ok) :
    Calls Try.prog 17 #[.string ByteArray.empty, .slice a l.length c] w fun e w' => ∃ ao co, e = .returned (.slice ao (madeL 0 l).length co) ∧ SlOf Tok.enc Tok.sz w' ao (madeL 0 l) ∧ Fr [] w w' := by
  have HB := Lib.hid (And.intro hs (And.intro hl hok))
  have hli : (l.length : Int) ≤ 500 := by omega
  clear hs hl hok
  go_enter Try.func17, Try.ntmps17
  go_wp2_with fail
  go_loopw [5, 6, 7] (fun v5 v6 v7 wr => ∃ k : Nat, k ≤ l.length ∧ v7 = .int .i64 (k : Int) ∧ v6 = .int .i64 ((madeN 0 (l.take k) : Nat) : Int) ∧ wr.ownsRow w.heap.size 66 3 v5 k ((madeL 0 (l.take k)).flatMap Tok.enc) ∧ Below w.heap.size w wr) (fun _ _ v7 _ => l.length - (intOf v7).toNat)
  case atStart => exact ⟨0, by omega, rfl, rfl, World.ownsRow_nil _ _ _ _, Below.refl _ _⟩
  case round =>
    obtain ⟨k, hk, rfl, rfl, hrow, hf⟩ := hrel
    obtain ⟨ao, co, rfl⟩ := row_form hrow
    by_cases hlt : k < l.length
    · have hki : (k : Int) < (l.length : Int) := by omega
      obtain ⟨r, hr⟩ : ∃ r, l[k]? = some r := ⟨l[k], List.getElem?_eq_getElem hlt⟩
      obtain ⟨b, o, rfl, hbl, hcell⟩ := (HB.out.1.below hf) (by intro h; rw [h] at hr; simp at hr)
      have c0 := hcell k r hr 0 (.int .u8 (r.lit : Int)) rfl
      have c1 := hcell k r hr 1 (.int .u16 (r.len : Int)) rfl
      have c2 := hcell k r hr 2 (.int .u16 (r.dist : Int)) rfl
      simp only [Nat.add_zero, RawT.sz] at c0 c1 c2
      rw [← Nat.add_assoc] at c1 c2
      have hn := madeN_le (l.take k) 0 fun x hx => HB.out.2.2 x (List.mem_of_mem_take hx)
      rw [List.length_take] at hn
      have HT := Lib.hid (show l.take (k + 1) = l.take k ++ [r] by rw [List.take_add_one, hr]; rfl)
      obtain ⟨n, hne⟩ : ∃ n, madeN 0 (l.take k) = n := ⟨_, rfl⟩
      have hni : (n : Int) ≤ 1000000 := by omega
      have hrok := HB.out.2.2 r (List.mem_of_getElem? hr)
      have htk := tok_ok r hrok n
      have HTK := Lib.hid (fun W => token_ok r n W hrok (by omega))
      obtain ⟨t, ht⟩ : ∃ t, r.tok n = t := ⟨_, rfl⟩
      rw [ht] at HTK htk
      unfold Tok.val at HTK
      obtain ⟨⟨ht1, ⟨ht2, ht3⟩, _⟩, _, ht4, ht5⟩ := htk
      have ht6 : max t.len 1 ≤ 258 := by unfold Tok.wide at ht4; omega
      obtain ⟨wd, hwd⟩ : ∃ wd, t.wide = wd := ⟨_, rfl⟩
      have ewd : max t.len 1 = (wd : Int) := by rw [← hwd]; unfold Tok.wide; omega
      have hwdi : (wd : Int) ≤ 258 := by omega
      rw [hne]
      have HW := Lib.hid (And.intro hrow (And.intro hf (And.intro hne (And.intro ht (And.intro hwd hr)))))
      clear hrow hf hne ht hwd hr hcell hn hrok ht4 ht5 ht6
      go_wp2_with fail
      refine (HTK.out _).mono ?_
      rintro e w2 ⟨rfl, f2⟩
      have hf2 := HW.out.2.1
      have hf2b : Fr [] wr w2 := f2
      have hB2 : Below w.heap.size w (w2.alloc (.cells #[.int .u8 (t.lit : Int), .int .i64 t.len, .int .i64 t.dist] 66)) := (hf2.trans (f2.below.mono hf2.size)).alloc (Nat.le_trans hf2.size f2.size) _
      have R1 := Lib.hid hB2
      have R0 := Lib.hid (show (w2.alloc (.cells #[.int .u8 (t.lit : Int), .int .i64 t.len, .int .i64 t.dist] 66)).ownsRow w.heap.size 66 3 (.slice ao k co) k _ from ownsRow_to HW.out.1 (f2.trans (Fr.alloc _ _ _)) (by simp))
      have R2 := Lib.hid hB2.size
      clear f2 c0 c1 c2 hf2 hf2b hB2
      go_wp2_with (at_builtin; go_must (refine wpList_push w.heap.size w (w2.alloc (.cells #[.int .u8 (t.lit : Int), .int .i64 t.len, .int .i64 t.dist] 66)) rfl (.tmp 32) (.tmp 34) 22 rfl 66 3 24 tokElem (.slice ao k co) k _ rfl R0 R1 R2.out #[.int .u8 (t.lit : Int), .int .i64 t.len, .int .i64 t.dist] 1 1 (by show Value.slice (some ⟨w2.heap.size + 1, 0, none⟩) 1 1 = _; rw [World.size_alloc]) rfl rfl (by omega) (by omega) (by omega) ?_); intro g6 c6 w6 HQ)
      obtain ⟨hrow, hf, hne, ht, hwd, hr⟩ := HW.out
      obtain ⟨m1, m2⟩ := made_snoc (l.take k) r 0
      refine ⟨⟨k + 1, by omega, by go_num, ?_, ?_, HQ.out.below⟩, by simp [intOf]; omega⟩
      · rw [HT.out, m2, hne, ht, hwd]
        go_num
      · rw [HT.out, m1, hne, ht, List.flatMap_append]
        have e1 : ([t] : List Tok).flatMap Tok.enc = [.int .u8 (t.lit : Int), .int .i64 t.len, .int .i64 t.dist] := rfl
        rw [e1]
        exact HQ.out.own
    · have hke : k = l.length := by omega
      subst hke
      rw [List.take_of_length_le (Nat.le_refl _)] at hrow ⊢
      have HF := Lib.hid (And.intro hrow hf)
      clear hrow hf
      go_wp2_with fail
      go_ret
      obtain ⟨hrow, hf⟩ := HF.out
      obtain ⟨a0, cap, h1, h2⟩ := slOf_own (enc := Tok.enc) (fun _ => rfl) hrow (madeL_len l 0).symm
      have h3 := madeL_len l 0
      rw [h3] at h1 ⊢
      cases h1
      exact ⟨_, _, rfl, h2, Fr.of_below hf⟩
set_option maxRecDepth 100000 in
theorem open_rawT {H : Type} {henc : TypeId × Value → H} {w : World} {v : Value} {d : DataW H} {ps : List MemPlace} {b0 : Nat} {r : Reach}
    (hval : Value.okWide Try.prog w r b0 35 v) (hd : DataW.Trod henc Try.prog w 0 (fun _ => true) true 35 v d ps) :
    ∃ a0 cap, ∃ xs : List RawT, v = .slice a0 xs.length cap ∧ xs.length ≤ maxLen ∧ SlOf RawT.enc RawT.sz w a0 xs ∧ ∀ x, x ∈ xs → x.ok := open_raws hval hd
end Go.Proofs.Ytciejmlhdmjajaa

