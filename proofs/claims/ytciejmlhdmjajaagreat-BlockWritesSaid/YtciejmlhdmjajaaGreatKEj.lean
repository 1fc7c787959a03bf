/- A loop over an iterator which may write blocks of its own, whose body never leaves it: one law for the caller. Package block: may all tokens be; their symbols, as an iterator. -/
import Derived.Test.YtciejmlhdmjajaaGreatKEi
import Derived.Test.YtciejmlhdmjajaaGreatKSo
import Derived.Test.YtciejmlhdmjajaaGreatKOw
import Derived.RangeFuncBox
import Derived.RangeFuncLeaves
import Derived.RangeFuncNested
import Derived.Shelf.Abstract
import Derived.Shelf.RegionOpen
import Derived.Sort.QuietIn
import Derived.OwnWalkIn
import Derived.TacticsInMore
import Derived.LoopNIn
import Derived.LoopIn
namespace Go.Proofs.YtciejmlhdmjajaaGreat
open Go.RowKit Go.Shelf
set_option linter.unusedVariables false
set_option linter.unusedSimpArgs false

/-- What a loop's body keeps, with the blocks M that it may turn: it abides whatever an iterator does that began where the heap ended at B and has the blocks own. -/
def Stab {β : Type} (own : List Nat) (B : Nat) (I : β → List Nat → World → Prop) : Prop :=
  ∀ s M X Y K, I s M X → Fr K X Y → (∀ i, i ∈ K → i ∈ own ∨ (B ≤ i ∧ i ∉ M)) → I s M Y
theorem Stab.mono {β : Type} {own : List Nat} {B C : Nat} {I : β → List Nat → World → Prop} (h : Stab own B I) (hBC : B ≤ C) : Stab own C I := fun s M X Y K hs hf hK => h s M X Y K hs hf fun i hi => (hK i hi).imp id fun h => ⟨by omega, h.2⟩
theorem Stab.and {β : Type} {own : List Nat} {B : Nat} {I K : β → List Nat → World → Prop} (h : Stab own B I) (k : Stab own B K) : Stab own B (fun s M W => I s M W ∧ K s M W) := fun s M X Y L hs hf hM => ⟨h s M X Y L hs.1 hf hM, k s M X Y L hs.2 hf hM⟩
theorem stab_pure {β : Type} {own : List Nat} {B : Nat} (p : β → List Nat → Prop) : Stab own B (fun s M (_ : World) => p s M) := fun _ _ _ _ _ h _ _ => h
theorem stab_fr {β : Type} {own L : List Nat} {B : Nat} {w : World} (hB : w.heap.size ≤ B) (ho : ∀ i, i ∈ own → i ∈ L ∨ w.heap.size ≤ i) : Stab own B (fun (_ : β) _ W => Fr L w W) := fun s M X Y K h hf hK => hf.outL h fun i hi => by
  rcases hK i hi with h1 | ⟨h1, _⟩
  · exact ho i h1
  · exact .inr (by omega)
theorem stab_blk {β : Type} {own : List Nat} {B : Nat} {g : Nat} (f : β → Obj) (hg : g < B) (ho : g ∉ own) : Stab own B (fun s _ W => W.heap[g]? = some (f s)) := fun s M X Y K h hf hK => hf.blk h fun hi => by
  rcases hK g hi with h1 | ⟨h1, _⟩
  · exact ho h1
  · omega
/-- Blocks that lie as they lay. -/
def KpL (S : List Nat) (A B : World) : Prop := ∀ k, k ∈ S → B.heap[k]? = A.heap[k]?
theorem KpL.of_fr {S M : List Nat} {A B : World} (h : Fr M A B) (hS : ∀ k, k ∈ S → k < A.heap.size ∧ k ∉ M) : KpL S A B := fun k hk => h.block k (hS k hk).1 (hS k hk).2
/-- What a round of a loop does, seen by the iterator: the body's blocks turn, and the loop's own. -/
def RoundQ {α : Type} (l : Nat) (J : List α → List Nat → World → Prop) (pre : List α) (x : α) (M : List Nat) (W : World) (e : Ending) (W' : World) : Prop :=
  e = .returned (.bool true) ∧ ∃ M', J (pre ++ [x]) M' W' ∧ Fr (l :: M) W W' ∧ ∀ i, i ∈ M' → i ∈ M ∨ W.heap.size ≤ i
/-- An iterator: called at whatever loop's yield, whatever the loop's body keeps: what it hands over, one by one. The body leaves the blocks S as they are; the iterator turns the blocks own. -/
def IterF {α : Type} (n : Nat) (P : Program) (g : Nat) (lb : Array Value) (encs : α → Array Value) (own S : List Nat) (All : List α → Prop) (N : Nat) (w : World) : Prop :=
  ∀ (l : Nat) (J : List α → List Nat → World → Prop) (M : List Nat) (W : World), Below w.heap.size w W → w.heap.size ≤ l → l < W.heap.size → (∀ i, i ∈ M → i ∉ own ∧ i ∉ S ∧ i < W.heap.size) → (∀ pre M X, J pre M X → ∀ i, i ∈ M → i < X.heap.size) → Stab own W.heap.size J →
    (∀ pre x M W1, J pre M W1 → pre.length < N → ∀ m, YieldAt Fence.wide m P l (encs x) W1 (RoundQ l J pre x M W1)) →
    J [] M W →
    CallsIn Fence.wide n P g (#[.func (.yield l) #[] #[]] ++ lb) W fun e W' => (∃ v, e = .returned v) ∧ ∃ xs M', All xs ∧ J xs M' W'
theorem yield_any {m : Nat} (m' : Nat) {P : Program} {l : Nat} {args : Array Value} {W : World} {R : Ending → World → Prop} (h : YieldAt Fence.wide m P l args W R) : YieldAt Fence.wide m' P l args W R := by
  obtain ⟨fn, tmps, assign, body, hy, h1, h2⟩ := h
  exact ⟨fn, tmps, assign, body, hy, h1, fun c cs _ => h2 c cs fun d hd => by cases hd⟩
theorem fr_grown {w w' : World} {row : Option Nat} (h : w.grownBy w' row) : Fr row.toList w w' := ⟨h.os, h.tape, h.output, h.size, fun k hk hm => h.block k hk fun e => hm (by rw [← e]; simp)⟩
def rndPost {α : Type} (B : Nat) (I : List α → List Nat → World → Prop) (xs : List α) (M : List Nat) (W : World) : Exit → Act → World → Prop
  | .normal, _, W' => ∃ M', I xs M' W' ∧ Fr M W W' ∧ ∀ i, i ∈ M' → i ∈ M ∨ B ≤ i
  | _, _, _ => False
theorem fr_put {W : World} {l : Nat} {o : Obj} (o' : Obj) (h : W.heap[l]? = some o) : Fr [l] W (W.putObj l o') :=
  ⟨rfl, rfl, rfl, by rw [World.putObj]; simp, fun k hk hm => World.putObj_heap_other (by simpa using hm)⟩
theorem wpIn_iter {α : Type} {n : Nat} {P : Program} {g : Operand} {ps : Array Tmp} {assign body : Code} {Q : Exit → Act → World → Prop} {a : Act} {w : World} (h1 : 1 ≤ n)
    {gf : Nat} {lb : Array Value} (hg : a.eval g = .func (.func gf) #[] lb) (eg : ∀ args w, (callFunc gf args).run P w = .ok (.enter gf args) w)
    {encs : α → Array Value} {own S : List Nat} {All : List α → Prop} {N : Nat} (hseq : IterF (n - 1) P gf lb encs own S All N w) (hps : ∀ x, (encs x).size = ps.size)
    (M : List Nat) (hM : ∀ i, i ∈ M → i < w.heap.size ∧ i ∉ own ∧ i ∉ S) (hown : ∀ k, k ∈ own → k < w.heap.size)
    (I : List α → List Nat → World → Prop) (hIM : ∀ pre M X, I pre M X → ∀ i, i ∈ M → i < X.heap.size) (hI : Stab own w.heap.size I) (h0 : I [] M w)
    (hround : ∀ (l : Nat) (pre : List α) (x : α) (M : List Nat) (W : World), w.heap.size ≤ l → l < W.heap.size → I pre M W → l ∉ M → pre.length < N →
      assign.wpIn (Fence.wide.inRound l) (n - 1 - 1) P (Exit.then (fun a₁ W₁ => Fr [] W W₁ ∧ ∀ W₂, Fr [l] W₁ W₂ → body.wpIn (Fence.wide.inRound l) (n - 1 - 1) P (rndPost W.heap.size I (pre ++ [x]) M W₂) a₁ W₂) (fun _ _ _ => False))
        { tmps := (ps.zip (encs x)).foldl (fun t (p, v) => t.setIfInBounds p v) a.tmps, defers := [] } W)
    (hdone : ∀ (D : Nat) (xs : List α) (M' : List Nat) (W : World), w.heap.size ≤ D → All xs → I xs M' W → D ∉ M' → W.heap[D]? = some (.deferred (some [])) → Q .normal { a with defers := { target := .collected D, args := #[] } :: a.defers } W) :
    (Code.rangeFunc g ps assign body).wpIn Fence.wide n P Q a w := by
  refine wpIn_rangeFunc fun fn hfn => ?_
  obtain ⟨z, hz⟩ : ∃ z, w.heap.size = z := ⟨_, rfl⟩
  obtain ⟨rc, hrc⟩ : ∃ rc : LoopState → Loop, rc = fun st => { state := st, pending := none, fn := fn, tmps := a.tmps, params := ps, assign := assign, body := body, defers := z } := ⟨_, rfl⟩
  obtain ⟨V, hV⟩ : ∃ V, (w.alloc (.deferred (some []))).alloc (.loop (rc .ready)) = V := ⟨_, rfl⟩
  have fV : Fr [] w V := by rw [← hV]; exact (Fr.alloc _ _ _).trans (Fr.alloc _ _ _)
  have vl : V.heap[z + 1]? = some (.loop (rc .ready)) := by
    rw [← hV, ← hz]
    have h := new_of (w.alloc (.deferred (some []))) (.loop (rc .ready))
    rwa [World.size_alloc] at h
  have vd : V.heap[z]? = some (.deferred (some [])) := by
    rw [← hV]
    have h2 : (w.alloc (.deferred (some []))).heap[z]? = some (.deferred (some [])) := by rw [← hz]; exact new_of _ _
    exact (Fr.alloc [] _ _).blk h2 (by simp)
  have vz : z + 2 ≤ V.heap.size := by rw [← hV]; simp; omega
  refine ⟨z + 1, [{ target := .collected z, args := #[] }], V, { target := .fn (.func gf) lb, args := #[.func (.yield (z + 1)) #[] #[]] }, V, gf, #[.func (.yield (z + 1)) #[] #[]] ++ lb, V, ?_, ?_, ?_, ?_, fun _ => h1, ?_⟩
  · rw [← hV, hrc, ← hz]; exact run_enterLoop_outer _ _ _ _ _
  · simp only [resolve, hg]
    simp [go_sem]
  · intro f' hf'; trivial
  · simp [invoke, go_sem, eg]
  rw [hz] at hM hown hI hround hdone
  refine (hseq (z + 1) (fun pre M W => I pre M W ∧ W.heap[z + 1]? = some (.loop (rc .ready)) ∧ W.heap[z]? = some (.deferred (some [])) ∧ z + 1 ∉ M ∧ z ∉ M) M V fV.below (by omega) (by omega)
    (fun i hi => ⟨(hM i hi).2.1, (hM i hi).2.2, by have := (hM i hi).1; omega⟩)
    (fun pre M X h => hIM pre M X h.1) (fun s M' X Y K hs hf hK => ?_)
    ?_ ⟨hI [] M w V [] h0 fV (by simp), vl, vd, fun h => by have := (hM _ h).1; omega, fun h => by have := (hM _ h).1; omega⟩).mono ?_
  · have nl : z + 1 ∉ K := fun h => by rcases hK _ h with h2 | ⟨h2, _⟩; have := hown _ h2; omega; omega
    have nd : z ∉ K := fun h => by rcases hK _ h with h2 | ⟨h2, _⟩; have := hown _ h2; omega; omega
    exact ⟨hI s M' X Y K hs.1 hf fun i hi => (hK i hi).imp id fun h => ⟨by omega, h.2⟩, hf.blk hs.2.1 nl, hf.blk hs.2.2.1 nd, hs.2.2.2⟩
  · rintro pre x M' W ⟨hi, hl, hd, nl, nd⟩ hlen m'
    refine yield_any (m := n - 1 - 1) m' ?_
    have hy := run_yield (P := P) (args := encs x) hl (by rw [hrc]; exact hps x)
    rw [hrc] at hy
    refine ⟨fn, _, assign, body, hy, roundIn_of_wpIn hfn (wpIn_mono (hround (z + 1) pre x M' W (by omega) (lt_of hl) hi nl hlen) ?_)⟩
    clear hy
    rintro ex a1 W1 hp
    cases ex with
    | normal =>
      obtain ⟨r1, hb⟩ := hp
      have l1 := r1.blk hl (by simp)
      have d1 := r1.blk hd (by simp)
      refine ⟨_, run_beginRound l1 (by rw [hrc]), ?_⟩
      have f2 := fr_put (.loop { rc .ready with state := .busy }) l1
      have l2 : (W1.putObj (z + 1) (.loop { rc .ready with state := .busy })).heap[z + 1]? = some (.loop { rc .ready with state := .busy }) := World.putObj_heap_same (Array.getElem?_eq_some_iff.1 l1).1
      have d2 := f2.blk d1 (by simp)
      refine wpIn_mono (hb _ f2) ?_
      rintro ex a3 W3 hp
      cases ex with
      | normal =>
        obtain ⟨M2, i3, r3, m3⟩ := hp
        have l3 := r3.blk l2 nl
        have d3 := r3.blk d2 nd
        have he := run_endRound (P := P) none l3
        have f4 := fr_put (.loop { ({ rc .ready with state := .busy } : Loop) with state := .ready, pending := none }) l3
        have hzW := lt_of hl
        have n2l : z + 1 ∉ M2 := fun h => by rcases m3 _ h with h2 | h2; exact nl h2; omega
        have n2d : z ∉ M2 := fun h => by rcases m3 _ h with h2 | h2; exact nd h2; omega
        refine ⟨_, _, he, rfl, M2, ⟨hI _ M2 W3 _ [z + 1] i3 f4 (fun i hi => by simp at hi; subst hi; exact .inr ⟨by omega, n2l⟩), ?_, f4.blk d3 (by simp), n2l, n2d⟩, ?_, m3⟩
        · rw [hrc]; rw [hrc] at l3; exact World.putObj_heap_same (Array.getElem?_eq_some_iff.1 l3).1
        · exact ((r1.nil.trans (f2.mono (by simp))).trans (r3.mono (by simp; exact fun i hi => .inr hi))).trans (f4.mono (by simp))
      | ret => exact hp.elim
      | exit id => exact hp.elim
      | goto t => exact hp.elim
      | panic ch => exact hp.elim
      | outgrown => exact hp.elim
    | ret => exact hp.elim
    | exit id => exact hp.elim
    | goto t => exact hp.elim
    | panic ch => exact hp.elim
    | outgrown => exact hp.elim
  · rintro e W2 ⟨⟨v, rfl⟩, xs, M2, hA, hi, hl, hd, nl, nd⟩
    have he := run_endLoop (P := P) hl (by rw [hrc]; simp)
    have f4 := fr_put (.loop { rc .ready with state := .exhausted }) hl
    refine ⟨none, _, by rw [hrc] at he; rw [hrc]; exact he, hdone z xs M2 _ (Nat.le_refl _) hA (hI _ M2 W2 _ [z + 1] hi f4 (fun i hi2 => by simp at hi2; subst hi2; exact .inr ⟨by omega, nl⟩)) nd (f4.blk hd (by simp))⟩
end Go.Proofs.YtciejmlhdmjajaaGreat
namespace Go.Proofs.YtciejmlhdmjajaaGreat
open Go.RowKit Go.Shelf
set_option linter.unusedVariables false
set_option linter.unusedSimpArgs false
attribute [local go_sem] Oper.semAt_some

theorem SlOf.fr {α : Type} {enc : α → List Value} {sz : Nat} {w w' : World} {a0 : Option Addr} {xs : List α} {L : List Nat} (h : SlOf enc sz w a0 xs) (hf : Fr L w w') (hL : ∀ a, a0 = some a → a.block ∉ L) : SlOf enc sz w' a0 xs := fun hx => by
  obtain ⟨b, o, h1, h2, h3⟩ := h hx
  refine ⟨b, o, h1, Nat.lt_of_lt_of_le h2 hf.size, fun i x hi j u hu => ?_⟩
  have h4 := h3 i x hi j u hu
  have h5 := hf.block b h2 (hL _ h1)
  unfold World.cell? at h4 ⊢
  rw [h5]
  exact h4

set_option maxRecDepth 100000 in
set_option maxHeartbeats 3200000 in
theorem may_all (a : Option Addr) (c : Nat) (l : List Tok) (w : World) (hs : SlOf Tok.enc Tok.sz w a l) (hl : l.length ≤ 1000000000) (hok : ∀ t ∈ l, t.ok) :
    Calls Tryz.prog 20 #[.slice a l.length c] w fun e w' => e = .returned (.bool (l.all Tok.may)) ∧ Fr [] w w' := by
  have S1 := Lib.hid (And.intro hs hok)
  have i1 : (l.length : Int) ≤ 1000000000 := by omega
  clear hs hl hok
  go_enter Tryz.func20, Tryz.ntmps20
  go_wp2_with fail
  go_loopw [7] (fun i wr => ∃ k : Nat, k ≤ l.length ∧ i = .int .i64 k ∧ Hid (∀ t ∈ l.take k, t.may = true) ∧ Fr [] w wr) (fun i _ => l.length - (intOf i).toNat)
  case atStart => exact ⟨0, Nat.zero_le _, rfl, Lib.hid (by simp), Fr.refl _ _⟩
  case round =>
    obtain ⟨k, hk, rfl, hp, hF⟩ := hrel
    by_cases hlt : k < l.length
    · obtain ⟨m, hm⟩ : ∃ m, l[k]? = some m := ⟨l[k], List.getElem?_eq_getElem hlt⟩
      obtain ⟨b, o, rfl, hbl, hcell⟩ := (S1.out.1.below hF.below) (by intro h; rw [h] at hlt; simp at hlt)
      have k0 := hcell k m hm 0 (.int .u8 (m.lit : Int)) rfl
      have k1 := hcell k m hm 1 (.int .i64 m.len) rfl
      have k2 := hcell k m hm 2 (.int .i64 m.dist) rfl
      simp only [Nat.add_zero, Tok.sz] at k0 k1 k2
      rw [← Nat.add_assoc] at k1 k2
      have HM := Lib.hid (fun W => may_tok m W (S1.out.2 m (List.mem_of_getElem? hm)))
      have HT := Lib.hid (show l.take (k + 1) = l.take k ++ [m] by rw [List.take_add_one, hm]; rfl)
      have hmem := List.mem_of_getElem? hm
      unfold Tok.val at HM
      obtain ⟨y, hy⟩ : ∃ y, m.may = y := ⟨_, rfl⟩
      rw [hy] at HM
      have HY := Lib.hid hy
      have HF := Lib.hid hF
      clear hcell hm hF
      cases y with
      | true =>
        clear hy hmem
        go_wp2_with fail
        refine (HM.out _).mono ?_
        rintro e w1 ⟨rfl, f1⟩
        have F1 := Lib.hid ((HF.out.trans (Fr.alloc _ _ _)).trans f1)
        clear f1 k0 k1 k2
        go_wp2_with fail
        go_roundw
        case rel => exact ⟨k + 1, by omega, by go_num, Lib.hid (by rw [HT.out]; intro t ht; rcases List.mem_append.1 ht with h | h; exact hp.out t h; simp at h; rw [h]; exact HY.out), F1.out⟩
        case measure => simp [intOf]; omega
      | false =>
        have HA := Lib.hid (show l.all Tok.may = false by rw [List.all_eq_false]; exact ⟨m, hmem, by simp [hy]⟩)
        clear hy hmem
        go_wp2_with fail
        refine (HM.out _).mono ?_
        rintro e w1 ⟨rfl, f1⟩
        have F1 := Lib.hid ((HF.out.trans (Fr.alloc _ _ _)).trans f1)
        clear f1 k0 k1 k2
        go_wp2_with fail
        go_ret
        exact ⟨by rw [HA.out]; rfl, F1.out⟩
    · have hke : k = l.length := by omega
      subst hke
      have HE := Lib.hid (show l.all Tok.may = true by rw [List.all_eq_true]; have := hp.out; rw [List.take_of_length_le (Nat.le_refl _)] at this; exact this)
      have HF := Lib.hid hF
      clear hF
      go_wp2_with fail
      go_ret
      exact ⟨by rw [HE.out]; rfl, HF.out⟩

def SyO : Type := {s : Sy // s.ok}
def SyO.sy (x : SyO) : Sy := x.1
def Sy.val (s : Sy) : Value := .agg #[.bool s.dist, .int .i64 (s.n : Int), .int .u32 (s.extra : Int), .int .i64 (s.bits : Int)]
def SyO.encs (x : SyO) : Array Value := #[x.sy.val]
def tokB {α : Type} (a : Option Addr) : List α → List Nat
  | [] => []
  | _ :: _ => (a.map Addr.block).toList
theorem SlOf.lt {α : Type} {enc : α → List Value} {sz : Nat} {A : World} {a0 : Option Addr} {xs : List α} (h : SlOf enc sz A a0 xs) : ∀ k, k ∈ tokB a0 xs → k < A.heap.size := fun k hk => by
  cases xs with
  | nil => cases hk
  | cons x xs =>
    obtain ⟨b, o, h1, h2, _⟩ := h (by simp)
    rw [h1] at hk
    simp [tokB] at hk
    omega
theorem SlOf.kp {α : Type} {enc : α → List Value} {sz : Nat} {A B : World} {a0 : Option Addr} {xs : List α} (h : SlOf enc sz A a0 xs) (hk : ∀ k, k ∈ tokB a0 xs → B.heap[k]? = A.heap[k]?) : SlOf enc sz B a0 xs := fun hx => by
  obtain ⟨b, o, h1, h2, h3⟩ := h hx
  have h5 := hk b (by rw [h1]; cases xs with | nil => exact absurd rfl hx | cons => simp [tokB])
  refine ⟨b, o, h1, ?_, fun i x hi j u hu => ?_⟩
  · rw [Array.getElem?_eq_getElem h2] at h5
    exact (Array.getElem?_eq_some_iff.1 h5).1
  · have h4 := h3 i x hi j u hu
    unfold World.cell? at h4 ⊢
    rw [h5]
    exact h4
theorem J_fr {α : Type} {own : List Nat} {B : Nat} {J : List α → List Nat → World → Prop} (hJ : Stab own B J) {s : List α} {M : List Nat} {A W : World} (h : J s M A) (f : Fr [] A W) : J s M W := hJ s M A _ [] h f (by simp)
theorem kept_on {S M M' : List Nat} {A B : World} {y z : Nat} (hf : Fr (y :: M) A B) (hS : ∀ k, k ∈ S → k < z) (hy : z ≤ y) (hA : z ≤ A.heap.size) (hM : ∀ i, i ∈ M → i ∉ S) (hM' : ∀ i, i ∈ M' → i ∈ M ∨ A.heap.size ≤ i) : KpL S A B ∧ (∀ i, i ∈ M' → i ∉ S) ∧ z ≤ B.heap.size :=
  ⟨KpL.of_fr hf fun k hk => ⟨by have := hS k hk; omega, fun h => by
    rcases List.mem_cons.1 h with h1 | h1
    · have := hS k hk; omega
    · exact hM k h1 hk⟩, fun i hi hs => by
    rcases hM' i hi with h1 | h1
    · exact hM i h1 hs
    · have := hS i hs; omega, Nat.le_trans hA hf.size⟩

theorem syms_in (a : Option Addr) (c : Nat) (n : Nat) (w : World) : Calls Tryz.prog 37 #[.slice a n c] w fun e w' => e = .returned (.func (.func 56) #[] #[.pointer (some ⟨w.heap.size, 0, none⟩)]) ∧ w' = w.alloc (.cells #[.slice a n c] 22) := by
  go_enter Tryz.func37, Tryz.ntmps37
  go_wp2
  go_ret
  exact ⟨rfl, rfl⟩

theorem length_tok (N : Nat) (w : World) (h3 : 3 ≤ N) (h258 : N ≤ 258) : Calls Tryz.prog 57 #[.int .i64 (N : Int)] w fun e w' => e = .returned (.tuple #[.int .i64 (lenSym N : Nat), .int .u32 ((N - leastN (lenSym N) : Nat) : Int), .int .i64 (lbN (lenSym N) : Nat), .bool true]) ∧ Fr [] w w' := by
  refine (length_yes N w h3 h258).mono ?_
  rintro e w' ⟨⟨r, he, _, _, hu, _⟩, f⟩
  have e1 : lenSym N = 256 + r := by unfold lenSym; rw [upto_eq hu]
  rw [e1]
  exact ⟨he, f⟩
theorem dist_tok (N : Nat) (w : World) (h3 : 1 ≤ N) (h258 : N ≤ 32768) : Calls Tryz.prog 58 #[.int .i64 (N : Int)] w fun e w' => e = .returned (.tuple #[.int .i64 (distSym N : Nat), .int .u32 ((N - nearN (distSym N) : Nat) : Int), .int .i64 (dbN (distSym N) : Nat), .bool true]) ∧ Fr [] w w' := by
  refine (dist_yes N w h3 h258).mono ?_
  rintro e w' ⟨⟨r, he, _, hu, _⟩, f⟩
  have e1 : distSym N = r := by unfold distSym; rw [upto_eq hu]; omega
  rw [e1]
  exact ⟨he, f⟩
set_option maxRecDepth 2000000 in
set_option maxHeartbeats 3200000 in
theorem syms_iter (n : Nat) (a : Option Addr) (c : Nat) (l : List Tok) (x : Nat) (w : World) (hs : SlOf Tok.enc Tok.sz w a l) (hl : l.length ≤ 1000000000) (hok : ∀ t ∈ l, t.ok) (hmay : ∀ t ∈ l, t.may = true) (hx : w.heap[x]? = some (.cells #[.slice a l.length c] 22 (0, 0))) :
    IterF n Tryz.prog 56 #[.pointer (some ⟨x, 0, none⟩)] SyO.encs [] (x :: tokB a l) (fun ys => ys.map SyO.sy = symsL l) (2 * l.length + 1) w := fun y J M0 W hW hyl hyW hM hJM hJ hY h0 => by
  have hxW : W.heap[x]? = some (.cells #[.slice a l.length c] 22 (0, 0)) := (hW.block x (lt_of hx)).trans hx
  have hsW := hs.below hW
  have hS : ∀ k, k ∈ x :: tokB a l → k < w.heap.size := fun k hk => by
    rcases List.mem_cons.1 hk with rfl | hk
    · exact lt_of hx
    · exact hs.lt k hk
  have hsz := hW.size
  have kx := cell_of hxW 0
  have hli : (l.length : Int) ≤ 1000000000 := by omega
  have HB := Lib.hid (And.intro hok (And.intro hmay (And.intro hJ (And.intro hY (And.intro hS (And.intro hyl hsz))))))
  have HS := Lib.hid (And.intro hxW (And.intro hsW (And.intro h0 fun i hi => (hM i hi).2.1)))
  clear hJM hx hxW hsW hY hJ hW hs hok hmay hl hS hyl hyW hM h0 hsz
  refine callsIn_of_wp Tryz.func56 rfl trivial ?_ rfl
  simp only [Tryz.ntmps56, List.size_toArray, List.length_cons, List.length_nil, Nat.reduceAdd, Nat.reduceSub, Array.replicate_succ, Array.replicate_zero, List.push_toArray, List.append_toArray, List.nil_append, List.cons_append]
  gi_wp2_with fail
  gi_loopw [15] (fun i wr => ∃ (k : Nat) (pre : List SyO) (M : List Nat), k ≤ l.length ∧ i = .int .i64 k ∧ Hid (pre.map SyO.sy = (l.take k).flatMap Tok.syms) ∧ pre.length ≤ 2 * k ∧ J pre M wr ∧ wr.heap[x]? = some (.cells #[.slice a l.length c] 22 (0, 0)) ∧ SlOf Tok.enc Tok.sz wr a l ∧ Hid (∀ i, i ∈ M → i ∉ x :: tokB a l) ∧ w.heap.size ≤ wr.heap.size) (fun i _ => l.length - (intOf i).toNat)
  case atStart => exact ⟨0, [], M0, Nat.zero_le _, rfl, Lib.hid rfl, by simp, HS.out.2.2.1, HS.out.1, HS.out.2.1, Lib.hid HS.out.2.2.2, HB.out.2.2.2.2.2.2⟩
  case round =>
    obtain ⟨k, pre, M, hk, rfl, hpre, hpl, hJs, hxr, hsr, hMS, hwz⟩ := hrel
    clear kx
    have H1 := Lib.hid (And.intro hJs (And.intro hxr (And.intro hsr (And.intro hMS.out hwz))))
    clear hJs hxr hsr hMS hwz
    rcases Nat.lt_or_ge k l.length with hlt | hge
    · have hki : (k : Int) < (l.length : Int) := by omega
      obtain ⟨m, hm⟩ : ∃ m, l[k]? = some m := ⟨l[k], List.getElem?_eq_getElem hlt⟩
      obtain ⟨b, o, rfl, hbl, hcell⟩ := H1.out.2.2.1 (by intro h; rw [h] at hlt; simp at hlt)
      obtain ⟨lit, len, dist⟩ := m
      have k0 := hcell k _ hm 0 (.int .u8 (lit : Int)) rfl
      have k1 := hcell k _ hm 1 (.int .i64 len) rfl
      have k2 := hcell k _ hm 2 (.int .i64 dist) rfl
      simp only [Nat.add_zero, Tok.sz] at k0 k1 k2
      rw [← Nat.add_assoc] at k1 k2
      have hmem := List.mem_of_getElem? hm
      have ht := HB.out.2.1 _ hmem
      have htok := HB.out.1 _ hmem
      have HT := Lib.hid (show l.take (k + 1) = l.take k ++ [⟨lit, len, dist⟩] by rw [List.take_add_one, hm]; rfl)
      clear hcell hm
      by_cases h0 : len = 0
      · subst h0
        have hlit : (lit : Int) ≤ 255 := by have := htok.1; simp only at this; omega
        obtain ⟨x0, hx0⟩ : ∃ x0 : SyO, x0.sy = ⟨false, lit, 0, 0⟩ := ⟨⟨_, syms_ok ht htok.1 _ (by unfold Tok.syms; simp)⟩, rfl⟩
        have he : x0.encs = #[.agg #[.bool false, .int .i64 (lit : Int), .int .u32 0, .int .i64 0]] := by unfold SyO.encs Sy.val; rw [hx0]; rfl
        obtain ⟨fn, tmps, assign, body, hy, hR⟩ := HB.out.2.2.2.1 pre x0 M (wr.alloc (.cells #[.int .u8 (lit : Int), .int .i64 0, .int .i64 dist] 69)) (J_fr HB.out.2.2.1 H1.out.1 (Fr.alloc _ _ _)) (by omega) (n - 1)
        rw [he] at hy
        have HR := Lib.hid hR
        have HT2 := Lib.hid (show (pre ++ [x0]).map SyO.sy = (l.take (k + 1)).flatMap Tok.syms by rw [HT.out, List.flatMap_append, ← hpre.out, List.map_append]; simp [Tok.syms, hx0])
        clear hR htok ht hmem he hx0
        gi_wp2_with fail
        refine ⟨fun h => absurd h (by simp [Fence.wide]), HR.out.mono ?_⟩
        rintro e W5 ⟨rfl, M5, hJ5, hf5, hm5⟩
        obtain ⟨hk5, hM5, hz5⟩ := kept_on hf5 HB.out.2.2.2.2.1 HB.out.2.2.2.2.2.1 (by have := H1.out.2.2.2.2; simp; omega) H1.out.2.2.2.1 hm5
        have H5 := Lib.hid (And.intro hJ5 (And.intro ((hk5 x (by simp)).trans ((Fr.alloc [] _ _).blk H1.out.2.1 (by simp))) (And.intro ((H1.out.2.2.1.fr (Fr.alloc [] _ _) (by simp)).kp fun k hk => hk5 k (List.mem_cons_of_mem _ hk)) (And.intro hM5 hz5))))
        clear hJ5 hk5 hy k0 k1 k2 hf5 hm5 hM5 hz5
        gi_wp2_with fail
        go_roundw
        case rel => exact ⟨k + 1, pre ++ [x0], M5, by omega, by go_num, Lib.hid HT2.out, by rw [List.length_append]; show pre.length + 1 ≤ _; omega, H5.out.1, H5.out.2.1, H5.out.2.2.1, Lib.hid H5.out.2.2.2.1, H5.out.2.2.2.2⟩
        case measure => simp [intOf]; omega
      · have hm3 : 3 ≤ len ∧ len ≤ 258 ∧ 1 ≤ dist ∧ dist ≤ 32768 ∧ lit = 0 := by
          rcases Tok.may_cases ht with ⟨h1, _⟩ | ⟨_, h1, h2, h3, h4, h5⟩
          · exact absurd h1 h0
          · exact ⟨h1, h2, h3, h4, h5⟩
        obtain ⟨N, rfl⟩ : ∃ N : Nat, len = (N : Int) := ⟨len.toNat, by omega⟩
        obtain ⟨D, rfl⟩ : ∃ D : Nat, dist = (D : Int) := ⟨dist.toNat, by omega⟩
        have hN : (N : Int) ≤ 258 := by omega
        have hN3 : 3 ≤ (N : Int) := by omega
        have hD : (D : Int) ≤ 32768 := by omega
        have hD1 : 1 ≤ (D : Int) := by omega
        have hNb : ((N : Int) == 0) = false := by rw [beq_eq_false_iff_ne]; exact h0
        have HL := Lib.hid (fun W => length_tok N W (by omega) (by omega))
        have HD := Lib.hid (fun W => dist_tok D W (by omega) (by omega))
        have HO := Lib.hid (And.intro (syms_ok ht htok.1) (show Tok.syms ⟨lit, N, D⟩ = [⟨false, lenSym N, N - leastN (lenSym N), lbN (lenSym N)⟩, ⟨true, distSym D, D - nearN (distSym D), dbN (distSym D)⟩] by unfold Tok.syms; simp only; rw [if_neg h0]; rfl))
        clear ht htok hmem hm3 h0
        generalize N - leastN (lenSym N) = e1 at HL HO
        generalize lbN (lenSym N) = b1 at HL HO
        generalize lenSym N = s1 at HL HO
        generalize D - nearN (distSym D) = e2 at HD HO
        generalize dbN (distSym D) = b2 at HD HO
        generalize distSym D = s2 at HD HO
        gi_wp2_with fail
        refine ⟨trivial, fun h => absurd h (by simp [Fence.wide]), (callsIn_wide.2 (HL.out _)).mono ?_⟩
        rintro e w1 ⟨rfl, f1⟩
        have F1 := Lib.hid ((Fr.alloc [] _ _).trans f1)
        have hbx := f1.blk (alloc_last wr (.cells #[.int .u8 (lit : Int), .int .i64 (N : Int), .int .i64 (D : Int)] 69 (0, 0))) (by simp)
        have c2 := cell_of hbx 2
        simp at c2
        clear f1 k0 k1 k2 hbx
        gi_wp2_with fail
        refine ⟨trivial, fun h => absurd h (by simp [Fence.wide]), (callsIn_wide.2 (HD.out _)).mono ?_⟩
        rintro e w2 ⟨rfl, f2⟩
        have F2 := Lib.hid (F1.out.trans f2)
        clear f2 c2
        obtain ⟨x1, hx1⟩ : ∃ x1 : SyO, x1.sy = ⟨false, s1, e1, b1⟩ := ⟨⟨_, HO.out.1 _ (by rw [HO.out.2]; simp)⟩, rfl⟩
        have he1 : x1.encs = #[.agg #[.bool false, .int .i64 (s1 : Int), .int .u32 (e1 : Int), .int .i64 (b1 : Int)]] := by unfold SyO.encs Sy.val; rw [hx1]
        obtain ⟨x2, hx2⟩ : ∃ x2 : SyO, x2.sy = ⟨true, s2, e2, b2⟩ := ⟨⟨_, HO.out.1 _ (by rw [HO.out.2]; simp)⟩, rfl⟩
        have he2 : x2.encs = #[.agg #[.bool true, .int .i64 (s2 : Int), .int .u32 (e2 : Int), .int .i64 (b2 : Int)]] := by unfold SyO.encs Sy.val; rw [hx2]
        have HT2 := Lib.hid (show ((pre ++ [x1]) ++ [x2]).map SyO.sy = (l.take (k + 1)).flatMap Tok.syms by rw [HT.out, List.flatMap_append, ← hpre.out, List.map_append, List.map_append]; simp [HO.out.2, hx1, hx2])
        obtain ⟨fn, tmps, assign, body, hy, hR⟩ := HB.out.2.2.2.1 pre x1 M w2 (J_fr HB.out.2.2.1 H1.out.1 F2.out) (by omega) (n - 1)
        rw [he1] at hy
        have HR := Lib.hid hR
        clear hR hx1 hx2 he1
        have HX := Lib.hid (F2.out.blk H1.out.2.1 (by simp))
        have HSL := Lib.hid (H1.out.2.2.1.fr F2.out (by simp))
        gi_wp2_with fail
        refine ⟨fun h => absurd h (by simp [Fence.wide]), HR.out.mono ?_⟩
        rintro e W5 ⟨rfl, M5, hJ5, hf5, hm5⟩
        obtain ⟨hk5, hM5, hz5⟩ := kept_on hf5 HB.out.2.2.2.2.1 HB.out.2.2.2.2.2.1 (Nat.le_trans H1.out.2.2.2.2 F2.out.size) H1.out.2.2.2.1 hm5
        have H5 := Lib.hid (And.intro ((hk5 x (by simp)).trans HX.out) (And.intro (HSL.out.kp fun k hk => hk5 k (List.mem_cons_of_mem _ hk)) (And.intro hM5 hz5)))
        obtain ⟨fn2, tmps2, assign2, body2, hy2, hR2⟩ := HB.out.2.2.2.1 (pre ++ [x1]) x2 M5 W5 hJ5 (by rw [List.length_append]; show pre.length + 1 < _; omega) (n - 1)
        rw [he2] at hy2
        have HR2 := Lib.hid hR2
        clear hR2 he2 hJ5 hk5 hy hf5 hm5 hM5 hz5
        gi_wp2_with fail
        refine ⟨fun h => absurd h (by simp [Fence.wide]), HR2.out.mono ?_⟩
        rintro e W6 ⟨rfl, M6, hJ6, hf6, hm6⟩
        obtain ⟨hk6, hM6, hz6⟩ := kept_on hf6 HB.out.2.2.2.2.1 HB.out.2.2.2.2.2.1 H5.out.2.2.2 H5.out.2.2.1 hm6
        have H6 := Lib.hid (And.intro hJ6 (And.intro ((hk6 x (by simp)).trans H5.out.1) (And.intro (H5.out.2.1.kp fun k hk => hk6 k (List.mem_cons_of_mem _ hk)) (And.intro hM6 hz6))))
        clear hJ6 hk6 hy2 hf6 hm6 hM6 hz6
        gi_wp2_with fail
        go_roundw
        case rel => exact ⟨k + 1, (pre ++ [x1]) ++ [x2], M6, by omega, by go_num, Lib.hid HT2.out, by rw [List.length_append, List.length_append]; show pre.length + 1 + 1 ≤ _; omega, H6.out.1, H6.out.2.1, H6.out.2.2.1, Lib.hid H6.out.2.2.2.1, H6.out.2.2.2.2⟩
        case measure => simp [intOf]; omega
    · have hke : k = l.length := by omega
      subst hke
      obtain ⟨x0, hx0⟩ : ∃ x0 : SyO, x0.sy = endSy := ⟨⟨endSy, by show 256 < 286; omega, by show 0 < 2 ^ 0; omega, by show 0 ≤ 13; omega⟩, rfl⟩
      have he : x0.encs = #[.agg #[.bool false, .int .i64 256, .int .u32 0, .int .i64 0]] := by unfold SyO.encs Sy.val; rw [hx0]; rfl
      have HT2 := Lib.hid (show (pre ++ [x0]).map SyO.sy = symsL l by rw [List.map_append, hpre.out, List.take_of_length_le (Nat.le_refl _)]; unfold symsL; simp [hx0])
      obtain ⟨fn, tmps, assign, body, hy, hR⟩ := HB.out.2.2.2.1 pre x0 M wr H1.out.1 (by omega) (n - 1)
      rw [he] at hy
      have HR := Lib.hid hR
      clear hR he hx0
      gi_wp2_with fail
      refine ⟨fun h => absurd h (by simp [Fence.wide]), HR.out.mono ?_⟩
      rintro e W5 ⟨rfl, M5, hJ5, hf5, hm5⟩
      have H5 := Lib.hid hJ5
      clear hJ5 hy hf5 hm5
      gi_wp2_with fail
      go_end0
      exact ⟨⟨_, rfl⟩, pre ++ [x0], M5, HT2.out, H5.out⟩
end Go.Proofs.YtciejmlhdmjajaaGreat

