/- A drawn region in a round of a loop over an iterator that ends in a call. block.out: the symbols of tokens. Codes that a block tells of: their kinds; how many bits its parts put. -/
import Derived.Test.YtciejmlhdmjajaaGreatKTn
import Derived.Test.YtciejmlhdmjajaaGreatKEk
import Derived.Test.YtciejmlhdmjajaaGreatKFh
import Derived.Test.YtciejmlhdmjajaaGreatKHj
import Derived.Test.YtciejmlhdmjajaaGreatKFi
import Derived.Test.YtciejmlhdmjajaaGreatKEu
namespace Go.Proofs.YtciejmlhdmjajaaGreat
open Go.RowKit
set_option linter.unusedVariables false
set_option linter.unusedSimpArgs false

/-- Results that enter at most a function. -/
def calmE : Result Next → Prop
  | .ok (.value _) _ => True
  | .ok .skip _ => True
  | .ok (.enter _ _) _ => True
  | .ok _ _ => False
  | .halt _ _ => True
def TameE (P : Program) (o : Oper) : Prop := (∀ c, o.op ≠ .defer c) ∧ ∀ (a : Act) w, calmE ((execOp a.eval o).run P w)
theorem TameE.of {P : Program} {o : Oper} (h : Tame P o) : TameE P o := ⟨h.1, fun a w => by
  have := h.2.2 a.eval w
  generalize (execOp a.eval o).run P w = r at *
  cases r with
  | ok x w' => cases x <;> first | exact trivial | exact this.elim
  | halt x w' => exact trivial⟩
theorem wpIn_of_tameE {l n : Nat} {P : Program} {o : Oper} {a : Act} {w : World} {K K' : Act → World → Prop} {Q : Exit → Act → World → Prop} (ht : TameE P o) (hk : ∀ a w, K a w → K' a w) (h : o.wp P a w K Q) : o.wpIn (Fence.wide.inRound l) n P a w K' Q := by
  obtain ⟨h1, h3⟩ := ht
  refine ⟨fun f hf => trivial, ?_⟩
  rw [Oper.semAt_plain _ _ _ h1]
  have hc := h3 a w
  unfold Oper.wp at h
  generalize (execOp a.eval o).run P w = r at *
  cases r with
  | ok x w' =>
    cases x with
    | enter f args =>
      refine ⟨fun h => absurd h (by simp [Fence.wide]), ?_⟩
      refine (callsIn_wide.2 (Calls.mono h ?_) : CallsIn Fence.wide (n - 1) P f args w' _)
      intro e w2 he
      cases e with
      | returned v => exact hk _ _ he
      | panicked ch => exact he
      | outgrown => exact he
    | _ => first | exact hk _ _ h | exact hc.elim
  | halt x w' => cases x <;> first | exact h | exact h.elim
theorem TameE.call {P : Program} {o : Oper} (f : FuncId) (args : Array Operand) (ats : Array TypeId) (ho : o.op = .call { callee := .value (.func f), args := args, argTypes := ats }) (hf : ∀ vs w, (callFunc f vs).run P w = .ok (.enter f vs) w) : TameE P o := by
  refine ⟨fun c h => (by rw [ho] at h; cases h), fun a w => ?_⟩
  have : (execOp a.eval o).run P w = (callFunc f (#[] ++ args.map a.eval)).run P w ∨ (execOp a.eval o).run P w = (callFunc f (args.map a.eval)).run P w := by
    obtain ⟨dst, op, type, pos, af, gd⟩ := o
    simp only at ho
    subst ho
    first
      | exact .inl (congrArg (fun m => Sem.run P m w) (execOp_call_func ..))
      | (left; simp [execOp, resolve, invoke, Act.eval, Deferred.ofValue]; done)
      | (right; simp [execOp, resolve, invoke, Act.eval, Deferred.ofValue])
  rcases this with h | h <;> rw [h, hf] <;> exact trivial
theorem anyIn_of_anyE {l n : Nat} {P : Program} {md : Region.Mode} {ops : Array Oper} {Q : Exit → Act → World → Prop} (hQ : ¬ LetsOut Q) (ht : ∀ (i : Nat) (o : Oper), ops[i]? = some o → TameE P o) :
    ∀ (fuel : Nat) (listed : Array Bool) (a : Act) (w : World), wpAny P md ops Q fuel listed a w → wpAnyIn (Fence.wide.inRound l) n P md ops Q fuel listed a w
  | 0, _, _, _, h => h
  | fuel + 1, listed, a, w, h => by
    refine ⟨h.1, fun i hi => ?_⟩
    have h2 := h.2 i hi
    unfold wpOp at h2
    unfold wpOpIn
    cases ho : ops[i]? with
    | none => simp only [ho] at h2 ⊢; exact anyIn_of_anyE hQ ht fuel _ _ _ h2
    | some o =>
      simp only [ho] at h2 ⊢
      by_cases hw : Region.wanted o (yielded ops a.tmps) = true
      · simp only [hw, if_true] at h2 ⊢
        exact wpIn_of_tameE (ht i o ho) (fun a w => anyIn_of_anyE hQ ht fuel _ a w) (h2.resolve_right fun h => hQ h.2)
      · simp only [hw, if_false, Bool.false_eq_true] at h2 ⊢
        exact ⟨fun f hf => trivial, anyIn_of_anyE hQ ht fuel _ _ _ h2⟩
theorem wpIn_region_callE {l m : Nat} {P : Program} {id : Nat} {Q : Exit → Act → World → Prop} {a : Act} {w : World} {ops : List Oper} (n : Nat) (hm : P.follows .mixedOrders = true) (hQ : ¬ LetsOut Q) (ht : ∀ (i : Nat) (o : Oper), ops.toArray[i]? = some o → TameE P o) (hB : Region.lexTailB .any ops.toArray n = true)
    (h : wpQuiet P ops.toArray (fun w' => w' = w.drew) (fun a' => wpList P ops.toArray Q (ops.drop n) a' w.drew) (ops.take n) a) : (Code.region id ops.toArray true).wpIn (Fence.wide.inRound l) m P Q a w :=
  wpIn_region_any hm (anyIn_of_anyE hQ ht _ _ _ _ (any_tail n hB (still_of_quiet _ _ h)))
def isCall (f : FuncId) : Op → Bool
  | .call c => match c.callee with
    | .value (.func g) => g == f
    | _ => false
  | _ => false
theorem tameE_list {P : Program} {ops : List Oper} (f : FuncId) (hf : ∀ vs w, (callFunc f vs).run P w = .ok (.enter f vs) w) (h : ops.all (fun o => tameOp o.op || isCall f o.op) = true) : ∀ (i : Nat) (o : Oper), ops.toArray[i]? = some o → TameE P o := fun i o ho => by
  have h1 := List.all_eq_true.1 h o (by have := Array.mem_of_getElem? ho; simpa using this)
  cases h2 : tameOp o.op with
  | true => exact TameE.of (tame_of h2)
  | false =>
    rw [h2, Bool.false_or] at h1
    cases h3 : o.op with
    | call c =>
      obtain ⟨cal, args, ats⟩ := c
      rw [h3] at h1
      cases cal with
      | value v =>
        cases v with
        | func g =>
          simp [isCall] at h1
          subst h1
          exact TameE.call g args ats h3 hf
        | _ => simp [isCall] at h1
      | _ => simp [isCall] at h1
    | _ => rw [h3] at h1; simp [isCall] at h1
end Go.Proofs.YtciejmlhdmjajaaGreat
namespace Go.Proofs.YtciejmlhdmjajaaGreat
open Go.RowKit Go.Shelf
set_option linter.unusedVariables false
set_option linter.unusedSimpArgs false
attribute [local go_sem] Oper.semAt_some

/-- What symbols put. -/
def symsP (lit dist : List Nat) (L : List Sy) : List (Nat × Nat) := L.flatMap fun s => [codeW (if s.dist then dist else lit) s.n, (s.extra, s.bits)]
theorem stab_out {β : Type} {B ob b most : Nat} (f : β → Nat × Nat) : Stab [] B (fun s M W => OutI ob b most (f s) M W) := fun s M X Y K h hf hK => h.to hf fun i hi hk => by
  rcases hK i hk with h1 | ⟨_, h1⟩
  · cases h1
  · exact h1 hi
theorem codeW_15 {l : List Nat} (h5 : kindN l ≠ 5) (s : Nat) : (codeW l s).2 ≤ 15 := by
  have h := (kind_ok (kind_le h5)).2
  rw [codeW_eq]
  split
  · exact Nat.zero_le _
  · show l.getD s 0 ≤ 15
    rw [List.getD_eq_getElem?_getD]
    cases hx : l[s]? with
    | none => simp
    | some x => simpa using h x (List.mem_of_getElem? hx)
theorem symsP_snoc (lit dist : List Nat) (L : List Sy) (s : Sy) (D : Nat × Nat) : puts D (symsP lit dist (L ++ [s])) = putP (putP (puts D (symsP lit dist L)) (codeW (if s.dist then dist else lit) s.n)) (s.extra, s.bits) := by
  unfold symsP
  rw [List.flatMap_append, puts_append]
  simp [puts]
set_option maxRecDepth 2000000 in
set_option maxHeartbeats 6400000 in
theorem osymbols_in (ob b most : Nat) (a : Option Addr) (c : Nat) (l : List Tok) (aL aD : Option Addr) (cL cD : Nat) (lit dist : List Nat) (D : Nat × Nat) (M : List Nat) (w : World) (hs : SlOf Tok.enc Tok.sz w a l) (hl : l.length ≤ 1000000) (hok : ∀ t ∈ l, t.ok) (hmay : ∀ t ∈ l, t.may = true)
    (hL : SlOf U8 1 w aL lit) (hD : SlOf U8 1 w aD dist) (h8 : ∀ x ∈ lit, x < 256) (k8 : ∀ x ∈ dist, x < 256) (hll : lit.length = 286 ∨ lit.length = 288) (hdl : dist.length = 30) (hkL : kindN lit ≠ 5 ∧ kindN lit ≠ 4) (hkD : kindN dist ≠ 5 ∧ kindN dist ≠ 4)
    (h : OutI ob b most D M w) (hm : most ≤ 1000000) (hna : ∀ i, i ∈ tokB a l → i ∉ M) :
    CallsIn Fence.wide 4 Tryz.prog 27 #[.pointer (some ⟨ob, 0, none⟩), .slice a l.length c, .agg #[.slice aL lit.length cL, .slice aD dist.length cD]] w fun e w' => e = .returned (.tuple #[]) ∧ OutTo ob b most (puts D (symsP lit dist (symsL l))) M w w' := by
  have HB := Lib.hid (And.intro hs (And.intro hl (And.intro hok (And.intro hmay (And.intro hL (And.intro hD (And.intro h8 (And.intro k8 (And.intro hll hdl)))))))))
  have HK := Lib.hid (And.intro hkL (And.intro hkD (And.intro h hna)))
  clear hs hl hok hmay hL hD h8 k8 hll hdl h hkL hkD hna
  refine callsIn_of_wp_marks Tryz.func27 rfl trivial ?_ rfl
  simp only [Tryz.ntmps27, List.size_toArray, List.length_cons, List.length_nil, Nat.reduceAdd, Nat.reduceSub, Array.replicate_succ, Array.replicate_zero, List.push_toArray, List.append_toArray, List.nil_append, List.cons_append]
  gi_wp2_with fail
  have fA : Fr [] w ((w.alloc (.cells #[.pointer (some ⟨ob, 0, none⟩)] 60)).alloc (.cells #[.slice aL lit.length cL, .slice aD dist.length cD] 45)) := (Fr.alloc _ _ _).trans (Fr.alloc _ _ _)
  have hlb : lit.length ≤ 300 ∧ dist.length ≤ 300 := by obtain ⟨_, _, _, _, _, _, _, _, h1, h2⟩ := HB.out; omega
  refine ⟨trivial, (callsIn_wide.2 (hwrites_any aL cL lit _ (HB.out.2.2.2.2.1.fr fA (by simp)) (by omega) HB.out.2.2.2.2.2.2.1 HK.out.1.1 HK.out.1.2)).mono ?_⟩
  rintro e w1 ⟨gl, rfl, hgl, hPl, f1⟩
  have xo := f1.blk ((Fr.alloc [] _ _).blk (alloc_last w (.cells #[.pointer (some ⟨ob, 0, none⟩)] 60)) (by simp) : ((w.alloc (.cells #[.pointer (some ⟨ob, 0, none⟩)] 60)).alloc (.cells #[.slice aL lit.length cL, .slice aD dist.length cD] 45)).heap[w.heap.size]? = _) (by simp)
  have xc := f1.blk (alloc_last (w.alloc (.cells #[.pointer (some ⟨ob, 0, none⟩)] 60)) (.cells #[.slice aL lit.length cL, .slice aD dist.length cD] 45)) (by simp)
  rw [World.size_alloc] at xc
  have fB := Fr.alloc [] w1 (.cells #[.slice (some ⟨gl, 0, none⟩) lit.length lit.length] 94)
  have xc2 := fB.blk xc (by simp)
  have d1 := cell_of xc2 1
  simp at d1 hgl
  have xl := alloc_last w1 (.cells #[.slice (some ⟨gl, 0, none⟩) lit.length lit.length] 94)
  have F1 := Lib.hid (And.intro ((fA.trans f1).trans fB) (And.intro (fB.blk hPl (by simp)) (And.intro (fB.blk xo (by simp)) (And.intro hgl xl))))
  clear fA f1 hPl xo xc hgl fB xc2 xl
  gi_wp2_with fail
  refine ⟨trivial, (callsIn_wide.2 (hwrites_any aD cD dist _ (HB.out.2.2.2.2.2.1.fr F1.out.1 (by simp)) (by omega) HB.out.2.2.2.2.2.2.2.1 HK.out.2.1.1 HK.out.2.1.2)).mono ?_⟩
  rintro e w2 ⟨gd, rfl, hgd, hPd, f2⟩
  rw [World.size_alloc] at hgd
  have fC := Fr.alloc [] w2 (.cells #[.slice (some ⟨gd, 0, none⟩) dist.length dist.length] 94)
  have xd := alloc_last w2 (.cells #[.slice (some ⟨gd, 0, none⟩) dist.length dist.length] 94)
  have F2 := Lib.hid (And.intro ((F1.out.1.trans f2).trans fC) (And.intro ((f2.trans fC).blk F1.out.2.1 (by simp)) (And.intro ((f2.trans fC).blk F1.out.2.2.1 (by simp)) (And.intro ((f2.trans fC).blk F1.out.2.2.2.2 (by simp)) (And.intro (fC.blk hPd (by simp)) (And.intro xd (And.intro F1.out.2.2.2.1 hgd)))))))
  clear f2 hPd hgd fC xd d1
  gi_wp2_with fail
  refine ⟨trivial, (callsIn_wide.2 (syms_in a c l.length _)).mono ?_⟩
  rintro e w3 ⟨rfl, rfl⟩
  gi_wp2_with fail
  obtain ⟨W3, hW3⟩ : ∃ W3, w2.alloc (.cells #[.slice (some ⟨gd, 0, none⟩) dist.length dist.length] 94) = W3 := ⟨_, rfl⟩
  rw [hW3] at F2 ⊢
  have hsz3 : W3.heap.size = w2.heap.size + 1 := by rw [← hW3, World.size_alloc]
  obtain ⟨W0, hW0⟩ : ∃ W0, W3.alloc (.cells #[.slice a l.length c] 22) = W0 := ⟨_, rfl⟩
  have hs0 : W0.heap.size = w2.heap.size + 2 := by rw [← hW0, World.size_alloc, hsz3]
  have xT : W0.heap[w2.heap.size + 1]? = some (.cells #[.slice a l.length c] 22 (0, 0)) := by
    rw [← hW0, ← hsz3]; exact alloc_last _ _
  have f30 : Fr [] W3 W0 := by rw [← hW0]; exact Fr.alloc _ _ _
  rw [hW0]
  clear hW0
  obtain ⟨g1, g2, g3, g4, g5, g6, g7, g8⟩ := F2.out
  have f0 : Fr [] w W0 := g1.trans f30
  have xPl := f30.blk g2 (by simp)
  have xo := f30.blk g3 (by simp)
  have xl := f30.blk g4 (by simp)
  have xPd := f30.blk g5 (by simp)
  have xd := f30.blk g6 (by simp)
  have hlx := lt_of g4
  have hlP := lt_of g2
  have hlD := lt_of g5
  have hw1 := (lt_of F1.out.2.2.2.2)
  obtain ⟨hs, hl, hok, hmay, hL, hD, h8, k8, hll, hdl⟩ := HB.out
  have hsz := f0.size
  have hOI := HK.out.2.2.1
  have hMlt := hOI.lt
  have hw1s : w.heap.size + 2 ≤ w1.heap.size := by
    have h1 := lt_of F1.out.2.1
    rw [World.size_alloc] at h1
    have h2 := F1.out.2.2.2.1
    omega
  refine wpIn_iter (by omega) rfl (enters_of Tryz.func56 (by kernel_rfl) rfl) (syms_iter 3 a c l (w2.heap.size + 1) W0 (hs.fr f0 (by simp)) (by omega) hok hmay xT) (fun _ => rfl) M
    (fun k hk => ?_) (fun k hk => by simp at hk)
    (fun pre M' W => (∀ i, i ∈ M' → i ∈ M ∨ W0.heap.size ≤ i) ∧ (OutI ob b most (puts D (symsP lit dist (pre.map SyO.sy))) M' W ∧ (Fr M w W ∧ (W.heap[w.heap.size]? = some (.cells #[.pointer (some ⟨ob, 0, none⟩)] 60 (0, 0)) ∧ (W.heap[w1.heap.size]? = some (.cells #[.slice (some ⟨gl, 0, none⟩) lit.length lit.length] 94 (0, 0)) ∧ (W.heap[w2.heap.size]? = some (.cells #[.slice (some ⟨gd, 0, none⟩) dist.length dist.length] 94 (0, 0)) ∧ (Prow Cd 99 W gl lit.length (codeW lit) ∧ Prow Cd 99 W gd dist.length (codeW dist))))))))
    (fun pre M' X h i hi => h.2.1.lt i hi)
    (Stab.and (stab_pure _) (Stab.and (stab_out _) (Stab.and (stab_fr (by omega) (by simp)) (Stab.and (stab_blk (fun _ => _) (by omega) (by simp)) (Stab.and (stab_blk (fun _ => _) (by omega) (by simp)) (Stab.and (stab_blk (fun _ => _) (by omega) (by simp)) (Stab.and (stab_blk (fun _ => _) (by omega) (by simp)) (stab_blk (fun _ => _) (by omega) (by simp)))))))))
    ⟨fun i hi => .inl hi, hOI.to0 f0, f0.nil, xo, xl, xd, xPl, xPd⟩ ?round ?done
  · have h1 := hMlt k hk
    refine ⟨by omega, by simp, ?_⟩
    simp only [List.mem_cons]
    rintro (h | h)
    · omega
    · exact HK.out.2.2.2 _ h hk
  case round =>
    rintro lp pre x M1 W hlp hlW ⟨hM1, hO, hf, zo, zl, zd, zPl, zPd⟩ hlM hlen
    obtain ⟨⟨sd, sn, se, sb⟩, hx⟩ := x
    obtain ⟨y, hy⟩ : ∃ y : SyO, y = ⟨⟨sd, sn, se, sb⟩, hx⟩ := ⟨_, rfl⟩
    have HY := Lib.hid hy
    simp only [SyO.encs, SyO.sy, Sy.val]
    gi_wp2_with fail
    refine ⟨Fr.alloc _ _ _, fun W2 f2 => ?_⟩
    have fa : Fr [lp] W W2 := (Fr.alloc [lp] _ _).trans f2
    have hO2 := hO.to fa (fun i hi h => by simp at h; subst h; exact hlM hi)
    have yo := fa.blk zo (by simp; omega)
    have yl := fa.blk zl (by simp; omega)
    have yd := fa.blk zd (by simp; omega)
    have yPl := fa.blk zPl (by simp; omega)
    have yPd := fa.blk zPd (by simp; omega)
    have zb := f2.blk (alloc_last W (.cells #[.bool sd, .int .i64 (sn : Int), .int .u32 (se : Int), .int .i64 (sb : Int)] 76)) (by simp; omega)
    have do0 := cell_of yo 0
    have dl0 := cell_of yl 0
    have dd0 := cell_of yd 0
    have b0 := cell_of zb 0
    have b1 := cell_of zb 1
    simp at do0 dl0 dd0 b0 b1
    have HW := Lib.hid (And.intro hM1 (And.intro hO2 (And.intro hf (And.intro yo (And.intro yl (And.intro yd (And.intro yPl (And.intro yPd (And.intro zb fa)))))))))
    have hss : sb ≤ 13 := hx.2.2
    have hsq : se < 2 ^ sb := hx.2.1
    have hsei : (se : Int) < 8192 := by
      have h1 : 2 ^ sb ≤ 2 ^ 13 := Nat.pow_le_pow_right (by decide) hss
      omega
    have HSE := Lib.hid hsq
    clear hsq
    have HMW := Lib.hid hO.lt
    have hW0W : W0.heap.size ≤ W.heap.size := by omega
    cases sd
    · have hsn : sn < 286 := by have := hx.1; simp at this; exact this
      have hsl : sn < lit.length := by omega
      have yPl' : Prow Cd 99 W2 gl lit.length (codeW lit) := yPl
      have p0 := yPl'.cell (fun _ => rfl) sn 0 hsl (by omega)
      have p1 := yPl'.cell (fun _ => rfl) sn 1 hsl (by omega)
      simp [Cd] at p0 p1
      clear hM1 hO hO2 hf yo yl yd yPl yPd zo zl zd zPl zPd zb fa hlW hlM
      gi_wp2_with fail
      refine wpIn_region_callE 6 (by kernel_rfl) (fun h => ?_) (tameE_list 46 (enters_of Tryz.func46 (by kernel_rfl) rfl) (by kernel_rfl)) (by kernel_rfl) ?_
      · obtain ⟨a', w', h⟩ := h; exact h
      simp only [List.take_succ_cons, List.take_zero, List.drop_succ_cons, List.drop_zero]
      repeat go_big_quiet_step (fail)
      refine wpQuiet_nil ?_
      go_wp2_with fail
      have h32 : (codeW lit sn).2 ≤ 32 := by have := codeW_15 HK.out.1.1 sn; omega
      refine (ocode_ok ob b most (codeW lit sn).1 (codeW lit sn).2 _ M1 _ (HW.out.2.1.to0 (Fr.drew (Fr.refl _ _))) hm h32 (codeW_lt lit sn)).mono ?_
      rintro e w4 ⟨rfl, M4, k4, f4, n4⟩
      have q0 := f4.blk (show W2.drew.heap[w.heap.size]? = _ from HW.out.2.2.2.1) (fun h => by rcases HW.out.1 _ h with h | h; have := hMlt _ h; omega; omega)
      have q1 := f4.blk (show W2.drew.heap[W.heap.size]? = _ from HW.out.2.2.2.2.2.2.2.2.1) (fun h => by have := HMW.out _ h; omega)
      have r0 := cell_of q0 0
      have r2 := cell_of q1 2
      have r3 := cell_of q1 3
      simp at r0 r2 r3
      have HW4 := Lib.hid (And.intro k4 (And.intro f4 n4))
      clear k4 f4 n4 q0 q1 do0 dl0 dd0 b0 b1 p0 p1
      go_wp2_with fail
      gi_wp2_with fail
      have HO5 := Lib.hid (obits_ok ob b most se sb _ M4 _ HW4.out.1 hm (show sb ≤ 56 by omega) HSE.out)
      refine ⟨trivial, (callsIn_wide.2 HO5.out).mono ?_⟩
      rintro e w5 ⟨rfl, M5, k5, f5, n5⟩
      have HW5 := Lib.hid (And.intro k5 (And.intro f5 n5))
      clear k5 f5 n5 HO5
      gi_wp2_with fail
      have F4 : Fr M1 W2 w4 := (Fr.drew (Fr.refl _ _)).trans HW4.out.2.1
      have N4 : ∀ i, i ∈ M4 → i ∈ M1 ∨ W2.heap.size ≤ i := HW4.out.2.2
      have F5 : Fr M1 W2 w5 := HW5.out.2.1.outL F4 N4
      have N5 : ∀ i, i ∈ M5 → i ∈ M1 ∨ W2.heap.size ≤ i := fun i hi => by
        rcases HW5.out.2.2 i hi with h | h
        · exact N4 i h
        · exact .inr (Nat.le_trans F4.size h)
      obtain ⟨hM1, hO2, hf, yo, yl, yd, yPl, yPd, zb, fa⟩ := HW.out
      have hWW := hf.size
      have hW2 := fa.size
      have hlx2 := lt_of yo
      have hnM : ∀ k, k < W0.heap.size → k ∉ M → k ∉ M1 := fun k h1 h2 h3 => by
        rcases hM1 k h3 with h | h
        · exact h2 h
        · omega
      have hnw : ∀ k, w.heap.size ≤ k → k ∉ M := fun k h1 h2 => by have := hMlt k h2; omega
      refine ⟨M5, ⟨fun i hi => ?_, ?_, ?_, F5.blk yo (hnM _ (by omega) (hnw _ (by omega))), F5.blk yl (hnM _ (by omega) (hnw _ (by omega))), F5.blk yd (hnM _ (by omega) (hnw _ (by omega))), F5.blk yPl (hnM _ (by omega) (hnw _ (by omega))), F5.blk yPd (hnM _ (by omega) (hnw _ (by omega)))⟩, F5, fun i hi => ?_⟩
      · rcases N5 i hi with h | h
        · exact hM1 i h
        · exact .inr (by omega)
      · rw [List.map_append]
        show OutI ob b most (puts D (symsP lit dist (List.map SyO.sy pre ++ [_]))) M5 w5
        rw [symsP_snoc]
        exact HW5.out.1
      · exact F5.outL (fa.outL hf fun i hi => by simp at hi; subst hi; exact .inr (by omega)) fun i hi => by
          rcases hM1 i hi with h | h
          · exact .inl h
          · exact .inr (by omega)
      · rcases N5 i hi with h | h
        · exact .inl h
        · exact .inr (by omega)
    · have hsn : sn < 30 := by have := hx.1; simp at this; exact this
      have hsl : sn < dist.length := by omega
      have yPd' : Prow Cd 99 W2 gd dist.length (codeW dist) := yPd
      have p0 := yPd'.cell (fun _ => rfl) sn 0 hsl (by omega)
      have p1 := yPd'.cell (fun _ => rfl) sn 1 hsl (by omega)
      simp [Cd] at p0 p1
      clear hM1 hO hO2 hf yo yl yd yPl yPd zo zl zd zPl zPd zb fa hlW hlM
      gi_wp2_with fail
      refine wpIn_region_callE 6 (by kernel_rfl) (fun h => ?_) (tameE_list 46 (enters_of Tryz.func46 (by kernel_rfl) rfl) (by kernel_rfl)) (by kernel_rfl) ?_
      · obtain ⟨a', w', h⟩ := h; exact h
      simp only [List.take_succ_cons, List.take_zero, List.drop_succ_cons, List.drop_zero]
      repeat go_big_quiet_step (fail)
      refine wpQuiet_nil ?_
      go_wp2_with fail
      have h32 : (codeW dist sn).2 ≤ 32 := by have := codeW_15 HK.out.2.1.1 sn; omega
      refine (ocode_ok ob b most (codeW dist sn).1 (codeW dist sn).2 _ M1 _ (HW.out.2.1.to0 (Fr.drew (Fr.refl _ _))) hm h32 (codeW_lt dist sn)).mono ?_
      rintro e w4 ⟨rfl, M4, k4, f4, n4⟩
      have q0 := f4.blk (show W2.drew.heap[w.heap.size]? = _ from HW.out.2.2.2.1) (fun h => by rcases HW.out.1 _ h with h | h; have := hMlt _ h; omega; omega)
      have q1 := f4.blk (show W2.drew.heap[W.heap.size]? = _ from HW.out.2.2.2.2.2.2.2.2.1) (fun h => by have := HMW.out _ h; omega)
      have r0 := cell_of q0 0
      have r2 := cell_of q1 2
      have r3 := cell_of q1 3
      simp at r0 r2 r3
      have HW4 := Lib.hid (And.intro k4 (And.intro f4 n4))
      clear k4 f4 n4 q0 q1 do0 dl0 dd0 b0 b1 p0 p1
      go_wp2_with fail
      gi_wp2_with fail
      have HO5 := Lib.hid (obits_ok ob b most se sb _ M4 _ HW4.out.1 hm (show sb ≤ 56 by omega) HSE.out)
      refine ⟨trivial, (callsIn_wide.2 HO5.out).mono ?_⟩
      rintro e w5 ⟨rfl, M5, k5, f5, n5⟩
      have HW5 := Lib.hid (And.intro k5 (And.intro f5 n5))
      clear k5 f5 n5 HO5
      gi_wp2_with fail
      have F4 : Fr M1 W2 w4 := (Fr.drew (Fr.refl _ _)).trans HW4.out.2.1
      have N4 : ∀ i, i ∈ M4 → i ∈ M1 ∨ W2.heap.size ≤ i := HW4.out.2.2
      have F5 : Fr M1 W2 w5 := HW5.out.2.1.outL F4 N4
      have N5 : ∀ i, i ∈ M5 → i ∈ M1 ∨ W2.heap.size ≤ i := fun i hi => by
        rcases HW5.out.2.2 i hi with h | h
        · exact N4 i h
        · exact .inr (Nat.le_trans F4.size h)
      obtain ⟨hM1, hO2, hf, yo, yl, yd, yPl, yPd, zb, fa⟩ := HW.out
      have hWW := hf.size
      have hW2 := fa.size
      have hlx2 := lt_of yo
      have hnM : ∀ k, k < W0.heap.size → k ∉ M → k ∉ M1 := fun k h1 h2 h3 => by
        rcases hM1 k h3 with h | h
        · exact h2 h
        · omega
      have hnw : ∀ k, w.heap.size ≤ k → k ∉ M := fun k h1 h2 => by have := hMlt k h2; omega
      refine ⟨M5, ⟨fun i hi => ?_, ?_, ?_, F5.blk yo (hnM _ (by omega) (hnw _ (by omega))), F5.blk yl (hnM _ (by omega) (hnw _ (by omega))), F5.blk yd (hnM _ (by omega) (hnw _ (by omega))), F5.blk yPl (hnM _ (by omega) (hnw _ (by omega))), F5.blk yPd (hnM _ (by omega) (hnw _ (by omega)))⟩, F5, fun i hi => ?_⟩
      · rcases N5 i hi with h | h
        · exact hM1 i h
        · exact .inr (by omega)
      · rw [List.map_append]
        show OutI ob b most (puts D (symsP lit dist (List.map SyO.sy pre ++ [_]))) M5 w5
        rw [symsP_snoc]
        exact HW5.out.1
      · exact F5.outL (fa.outL hf fun i hi => by simp at hi; subst hi; exact .inr (by omega)) fun i hi => by
          rcases hM1 i hi with h | h
          · exact .inl h
          · exact .inr (by omega)
      · rcases N5 i hi with h | h
        · exact .inl h
        · exact .inr (by omega)
  case done =>
    rintro Db ys M' W hD1 hys ⟨hM1, hO, hf, _⟩ hDM hKd
    rw [hys] at hO
    have hDW : Db < W.heap.size := lt_of hKd
    have fp := fr_put (.deferred none) hKd
    gi_wp2_with fail
    refine ⟨by simp, .inl ⟨_, _, rfl, run_takeDeferred hKd, ?_⟩⟩
    refine ⟨_, results_none rfl _ _ _, rfl, M', hO.to fp (fun i hi h => by simp at h; subst h; exact hDM hi), fp.outL hf (fun i hi => by simp at hi; subst hi; exact .inr (by omega)), fun i hi => (hM1 i hi).imp id fun h => by omega⟩
end Go.Proofs.YtciejmlhdmjajaaGreat
namespace Go.Proofs.YtciejmlhdmjajaaGreat
open Go.RowKit
set_option linter.unusedVariables false
set_option linter.unusedSimpArgs false

theorem lens_fine (F : Nat → Nat) (n m : Nat) (hn : n ≤ 320) (h1 : 1 ≤ m) (h15 : m ≤ 15) (hm : n ≤ 2 ^ m) : kindN ((List.range n).map (lenS (ctL F n) m)) ≠ 5 ∧ kindN ((List.range n).map (lenS (ctL F n) m)) ≠ 4 := by
  have h := lens_kind (ctL F n) m (by rw [ctL_len]; exact hn) h1 h15 (by rw [← posN_sort]; exact Nat.le_trans (posN_le F n) hm)
  have e : lensL (ctL F n) m = (List.range n).map (lenS (ctL F n) m) := by unfold lensL; rw [ctL_len]
  rw [e] at h
  rw [h]
  constructor <;> (repeat' split) <;> omega
theorem bestLit_fine (l : List Tok) : kindN (bestLit l) ≠ 5 ∧ kindN (bestLit l) ≠ 4 := lens_fine _ 286 15 (by omega) (by omega) (by omega) (by omega)
theorem bestDist_fine (l : List Tok) : kindN (bestDist l) ≠ 5 ∧ kindN (bestDist l) ≠ 4 := lens_fine _ 30 15 (by omega) (by omega) (by omega) (by omega)
theorem fixLit_fine : kindN fixLit ≠ 5 ∧ kindN fixLit ≠ 4 := by decide +kernel
theorem fixDist_fine : kindN fixDist ≠ 5 ∧ kindN fixDist ≠ 4 := by decide +kernel
/-- The lengths of the codes of the code lengths. -/
def ownL (lit dist : List Nat) : List Nat := (List.range 19).map (ownF lit dist)
theorem ownL_fine (lit dist : List Nat) : kindN (ownL lit dist) ≠ 5 ∧ kindN (ownL lit dist) ≠ 4 := lens_fine _ 19 7 (by omega) (by omega) (by omega) (by omega)
theorem ownL_get (lit dist : List Nat) (s : Nat) (h : s ≤ 18) : (ownL lit dist).getD s 0 = ownF lit dist s := by
  unfold ownL
  rw [List.getD_eq_getElem?_getD, List.getElem?_map, List.getElem?_range (by omega)]
  rfl
theorem bits_syms (lit dist : List Nat) : ∀ L : List Sy, bitsP (symsP lit dist L) = takesL lit dist L
  | [] => rfl
  | s :: L => by
    have h := bits_syms lit dist L
    unfold symsP at h ⊢
    rw [List.flatMap_cons, bitsP_append, h]
    simp only [bitsP, takesL, Sy.takes, codeW_size]
    omega
def runsP (own : List Nat) (rs : List (Nat × Nat)) : List (Nat × Nat) := rs.flatMap fun p => [codeW own p.1, (p.2, rbN p.1)]
/-- What the head of codes puts. -/
def headP (lit dist : List Nat) : List (Nat × Nat) :=
  [(uptoL lit 257 - 257, 5), (uptoL dist 1 - 1, 5), (uptoL (ordL lit dist) 4 - 4, 4)] ++ (((ordL lit dist).take (uptoL (ordL lit dist) 4)).map (fun n => (n, 3)) ++ runsP (ownL lit dist) (rsL lit dist))
theorem bits_order : ∀ l : List Nat, bitsP (l.map fun n => (n, 3)) = 3 * l.length
  | [] => rfl
  | n :: l => by rw [List.map_cons, bitsP, bits_order l, List.length_cons]; omega
theorem bits_runs (lit dist : List Nat) : ∀ rs : List (Nat × Nat), (∀ p ∈ rs, RunOk p) → bitsP (runsP (ownL lit dist) rs) = takesR (ownF lit dist) rs
  | [], _ => rfl
  | p :: rs, h => by
    have h1 := bits_runs lit dist rs fun q hq => h q (by simp [hq])
    unfold runsP at h1 ⊢
    rw [List.flatMap_cons, bitsP_append, h1]
    simp only [bitsP, takesR, codeW_size]
    rw [ownL_get _ _ _ (h p (by simp)).1]
    omega
theorem bits_head (lit dist : List Nat) (h8 : ∀ x ∈ lit, x ≤ 15) (k8 : ∀ x ∈ dist, x ≤ 15) : bitsP (headP lit dist) = headN lit dist := by
  unfold headP
  rw [bitsP_append, bitsP_append, bits_order, bits_runs lit dist (rsL lit dist) (packL_ok _ (allL_ok h8 k8)), List.length_take, Nat.min_eq_left]
  · simp only [bitsP, headN]; omega
  · have := (kl_le lit dist).2
    have hln : (ordL lit dist).length = 19 := by unfold ordL; rw [List.length_map]; rfl
    omega
theorem pad_size (D : Nat × Nat) : (padP D).2 = D.2 + pad D.2 := rfl
theorem oneD_size (D : Nat × Nat) (s : ByteArray) (last : Bool) : (oneD D s last).2 = D.2 + 3 + (8 - (D.2 + 3) % 8) % 8 + 32 + 8 * s.size := by
  unfold oneD
  simp only [putP, padP, pad]
theorem storedF_size : ∀ (f : Nat) (last : Bool) (D : Nat × Nat) (r : ByteArray), 1 ≤ f → r.size ≤ f * 65535 → (storedF f last D r).2 = D.2 + storedN D.2 r.size := by
  intro f
  induction f with
  | zero => intro _ _ _ h; omega
  | succ f ih =>
    intro last D r _ hr
    unfold storedF
    split
    · rename_i h
      rw [oneD_size]
      unfold storedN
      have : (r.size - 1) / 65535 = 0 := by omega
      rw [this]
      omega
    · rename_i h
      have hf : 1 ≤ f := by
        rcases Nat.eq_zero_or_pos f with rfl | h2
        · omega
        · exact h2
      have hs : (r.extract 0 65535).size = 65535 := by rw [ByteArray.size_extract]; omega
      have hs2 : (r.extract 65535 r.size).size = r.size - 65535 := by rw [ByteArray.size_extract]; omega
      rw [ih _ _ _ hf (by rw [hs2]; omega), oneD_size, hs, hs2]
      unfold storedN
      have h3 : (r.size - 1) / 65535 = (r.size - 65535 - 1) / 65535 + 1 := by omega
      rw [h3]
      generalize (r.size - 65535 - 1) / 65535 = q
      omega
/-- What a block puts. -/
def blockP (kind : Nat) (last : Bool) (l : List Tok) : List (Nat × Nat) :=
  (2 * kind + last.toNat, 3) :: (if kind = 1 then symsP fixLit fixDist (symsL l) else headP (bestLit l) (bestDist l) ++ symsP (bestLit l) (bestDist l) (symsL l))
def blockF (kind : Nat) (l : List Tok) (raw : ByteArray) (last : Bool) (D : Nat × Nat) : Nat × Nat :=
  if kind = 0 then storedF 17 last D raw else puts D (blockP kind last l)
theorem blockF_size (kind : Nat) (l : List Tok) (raw : ByteArray) (last : Bool) (D : Nat × Nat) (hr : raw.size ≤ 1048576) : (blockF kind l raw last D).2 = D.2 + sizeN kind l raw.size D.2 := by
  unfold blockF sizeN
  split
  · exact storedF_size 17 last D raw (by omega) (by omega)
  · rw [puts_len]
    unfold blockP
    rw [bitsP]
    split
    · rw [bits_syms]
    · rw [bitsP_append, bits_syms, bits_head _ _ (bestLit_le l) (bestDist_le l)]
      simp only
      omega
end Go.Proofs.YtciejmlhdmjajaaGreat

