/- A loop over an iterator which may write blocks of its own, whose body never leaves it: one law for the caller. -/
import Derived.Test.YtciejmlhdmjajaaKOw
import Derived.RangeFuncBox
import Derived.RangeFuncLeaves
import Derived.RangeFuncNested
import Derived.Shelf.Abstract
import Derived.Shelf.RegionOpen
import Derived.Sort.QuietIn
import Derived.OwnWalkIn
import Derived.TacticsInMore
import Derived.LoopNIn
import Derived.LoopIn
namespace Go.Proofs.Ytciejmlhdmjajaa
open Go.RowKit Go.Shelf
set_option linter.unusedVariables false
set_option linter.unusedSimpArgs false

/-- What a loop's body keeps, with the blocks M that it may turn: it abides whatever an iterator does that began where the heap ended at B and has the blocks own. -/
def Stab {β : Type} (own : List Nat) (B : Nat) (I : β → List Nat → World → Prop) : Prop :=
  ∀ s M X Y K, I s M X → Fr K X Y → (∀ i, i ∈ K → i ∈ own ∨ (B ≤ i ∧ i ∉ M)) → I s M Y
theorem Stab.mono {β : Type} {own : List Nat} {B C : Nat} {I : β → List Nat → World → Prop} (h : Stab own B I) (hBC : B ≤ C) : Stab own C I := fun s M X Y K hs hf hK => h s M X Y K hs hf fun i hi => (hK i hi).imp id fun h => ⟨by omega, h.2⟩
theorem Stab.and {β : Type} {own : List Nat} {B : Nat} {I K : β → List Nat → World → Prop} (h : Stab own B I) (k : Stab own B K) : Stab own B (fun s M W => I s M W ∧ K s M W) := fun s M X Y L hs hf hM => ⟨h s M X Y L hs.1 hf hM, k s M X Y L hs.2 hf hM⟩
theorem stab_pure {β : Type} {own : List Nat} {B : Nat} (p : β → List Nat → Prop) : Stab own B (fun s M (_ : World) => p s M) := fun _ _ _ _ _ h _ _ => h
theorem stab_fr {β : Type} {own L : List Nat} {B : Nat} {w : World} (hB : w.heap.size ≤ B) (ho : ∀ i, i ∈ own → i ∈ L ∨ w.heap.size ≤ i) : Stab own B (fun (_ : β) _ W => Fr L w W) := fun s M X Y K h hf hK => hf.outL h fun i hi => by
  rcases hK i hi with h1 | ⟨h1, _⟩
  · exact ho i h1
  · exact .inr (by omega)
theorem stab_blk {β : Type} {own : List Nat} {B : Nat} {g : Nat} (f : β → Obj) (hg : g < B) (ho : g ∉ own) : Stab own B (fun s _ W => W.heap[g]? = some (f s)) := fun s M X Y K h hf hK => hf.blk h fun hi => by
  rcases hK g hi with h1 | ⟨h1, _⟩
  · exact ho h1
  · omega
/-- Blocks that lie as they lay. -/
def KpL (S : List Nat) (A B : World) : Prop := ∀ k, k ∈ S → B.heap[k]? = A.heap[k]?
theorem KpL.of_fr {S M : List Nat} {A B : World} (h : Fr M A B) (hS : ∀ k, k ∈ S → k < A.heap.size ∧ k ∉ M) : KpL S A B := fun k hk => h.block k (hS k hk).1 (hS k hk).2
/-- What a round of a loop does, seen by the iterator: the body's blocks turn, and the loop's own. -/
def RoundQ {α : Type} (l : Nat) (J : List α → List Nat → World → Prop) (pre : List α) (x : α) (M : List Nat) (W : World) (e : Ending) (W' : World) : Prop :=
  e = .returned (.bool true) ∧ ∃ M', J (pre ++ [x]) M' W' ∧ Fr (l :: M) W W' ∧ ∀ i, i ∈ M' → i ∈ M ∨ W.heap.size ≤ i
/-- An iterator: called at whatever loop's yield, whatever the loop's body keeps: what it hands over, one by one. The body leaves the blocks S as they are; the iterator turns the blocks own. -/
def IterF {α : Type} (n : Nat) (P : Program) (g : Nat) (lb : Array Value) (encs : α → Array Value) (own S : List Nat) (All : List α → Prop) (N : Nat) (w : World) : Prop :=
  ∀ (l : Nat) (J : List α → List Nat → World → Prop) (M : List Nat) (W : World), Below w.heap.size w W → w.heap.size ≤ l → l < W.heap.size → (∀ i, i ∈ M → i ∉ own ∧ i ∉ S ∧ i < W.heap.size) → (∀ pre M X, J pre M X → ∀ i, i ∈ M → i < X.heap.size) → Stab own W.heap.size J →
    (∀ pre x M W1, J pre M W1 → pre.length < N → ∀ m, YieldAt Fence.wide m P l (encs x) W1 (RoundQ l J pre x M W1)) →
    J [] M W →
    CallsIn Fence.wide n P g (#[.func (.yield l) #[] #[]] ++ lb) W fun e W' => (∃ v, e = .returned v) ∧ ∃ xs M', All xs ∧ J xs M' W'
theorem yield_any {m : Nat} (m' : Nat) {P : Program} {l : Nat} {args : Array Value} {W : World} {R : Ending → World → Prop} (h : YieldAt Fence.wide m P l args W R) : YieldAt Fence.wide m' P l args W R := by
  obtain ⟨fn, tmps, assign, body, hy, h1, h2⟩ := h
  exact ⟨fn, tmps, assign, body, hy, h1, fun c cs _ => h2 c cs fun d hd => by cases hd⟩
theorem fr_grown {w w' : World} {row : Option Nat} (h : w.grownBy w' row) : Fr row.toList w w' := ⟨h.os, h.tape, h.output, h.size, fun k hk hm => h.block k hk fun e => hm (by rw [← e]; simp)⟩
def rndPost {α : Type} (B : Nat) (I : List α → List Nat → World → Prop) (xs : List α) (M : List Nat) (W : World) : Exit → Act → World → Prop
  | .normal, _, W' => ∃ M', I xs M' W' ∧ Fr M W W' ∧ ∀ i, i ∈ M' → i ∈ M ∨ B ≤ i
  | _, _, _ => False
theorem fr_put {W : World} {l : Nat} {o : Obj} (o' : Obj) (h : W.heap[l]? = some o) : Fr [l] W (W.putObj l o') :=
  ⟨rfl, rfl, rfl, by rw [World.putObj]; simp, fun k hk hm => World.putObj_heap_other (by simpa using hm)⟩
theorem wpIn_iter {α : Type} {n : Nat} {P : Program} {g : Operand} {ps : Array Tmp} {assign body : Code} {Q : Exit → Act → World → Prop} {a : Act} {w : World} (h1 : 1 ≤ n)
    {gf : Nat} {lb : Array Value} (hg : a.eval g = .func (.func gf) #[] lb) (eg : ∀ args w, (callFunc gf args).run P w = .ok (.enter gf args) w)
    {encs : α → Array Value} {own S : List Nat} {All : List α → Prop} {N : Nat} (hseq : IterF (n - 1) P gf lb encs own S All N w) (hps : ∀ x, (encs x).size = ps.size)
    (M : List Nat) (hM : ∀ i, i ∈ M → i < w.heap.size ∧ i ∉ own ∧ i ∉ S) (hown : ∀ k, k ∈ own → k < w.heap.size)
    (I : List α → List Nat → World → Prop) (hIM : ∀ pre M X, I pre M X → ∀ i, i ∈ M → i < X.heap.size) (hI : Stab own w.heap.size I) (h0 : I [] M w)
    (hround : ∀ (l : Nat) (pre : List α) (x : α) (M : List Nat) (W : World), w.heap.size ≤ l → l < W.heap.size → I pre M W → l ∉ M → pre.length < N →
      assign.wpIn (Fence.wide.inRound l) (n - 1 - 1) P (Exit.then (fun a₁ W₁ => Fr [] W W₁ ∧ ∀ W₂, Fr [l] W₁ W₂ → body.wpIn (Fence.wide.inRound l) (n - 1 - 1) P (rndPost W.heap.size I (pre ++ [x]) M W₂) a₁ W₂) (fun _ _ _ => False))
        { tmps := (ps.zip (encs x)).foldl (fun t (p, v) => t.setIfInBounds p v) a.tmps, defers := [] } W)
    (hdone : ∀ (D : Nat) (xs : List α) (M' : List Nat) (W : World), w.heap.size ≤ D → All xs → I xs M' W → D ∉ M' → W.heap[D]? = some (.deferred (some [])) → Q .normal { a with defers := { target := .collected D, args := #[] } :: a.defers } W) :
    (Code.rangeFunc g ps assign body).wpIn Fence.wide n P Q a w := by
  refine wpIn_rangeFunc fun fn hfn => ?_
  obtain ⟨z, hz⟩ : ∃ z, w.heap.size = z := ⟨_, rfl⟩
  obtain ⟨rc, hrc⟩ : ∃ rc : LoopState → Loop, rc = fun st => { state := st, pending := none, fn := fn, tmps := a.tmps, params := ps, assign := assign, body := body, defers := z } := ⟨_, rfl⟩
  obtain ⟨V, hV⟩ : ∃ V, (w.alloc (.deferred (some []))).alloc (.loop (rc .ready)) = V := ⟨_, rfl⟩
  have fV : Fr [] w V := by rw [← hV]; exact (Fr.alloc _ _ _).trans (Fr.alloc _ _ _)
  have vl : V.heap[z + 1]? = some (.loop (rc .ready)) := by
    rw [← hV, ← hz]
    have h := new_of (w.alloc (.deferred (some []))) (.loop (rc .ready))
    rwa [World.size_alloc] at h
  have vd : V.heap[z]? = some (.deferred (some [])) := by
    rw [← hV]
    have h2 : (w.alloc (.deferred (some []))).heap[z]? = some (.deferred (some [])) := by rw [← hz]; exact new_of _ _
    exact (Fr.alloc [] _ _).blk h2 (by simp)
  have vz : z + 2 ≤ V.heap.size := by rw [← hV]; simp; omega
  refine ⟨z + 1, [{ target := .collected z, args := #[] }], V, { target := .fn (.func gf) lb, args := #[.func (.yield (z + 1)) #[] #[]] }, V, gf, #[.func (.yield (z + 1)) #[] #[]] ++ lb, V, ?_, ?_, ?_, ?_, fun _ => h1, ?_⟩
  · rw [← hV, hrc, ← hz]; exact run_enterLoop_outer _ _ _ _ _
  · simp only [resolve, hg]
    simp [go_sem]
  · intro f' hf'; trivial
  · simp [invoke, go_sem, eg]
  rw [hz] at hM hown hI hround hdone
  refine (hseq (z + 1) (fun pre M W => I pre M W ∧ W.heap[z + 1]? = some (.loop (rc .ready)) ∧ W.heap[z]? = some (.deferred (some [])) ∧ z + 1 ∉ M ∧ z ∉ M) M V fV.below (by omega) (by omega)
    (fun i hi => ⟨(hM i hi).2.1, (hM i hi).2.2, by have := (hM i hi).1; omega⟩)
    (fun pre M X h => hIM pre M X h.1) (fun s M' X Y K hs hf hK => ?_)
    ?_ ⟨hI [] M w V [] h0 fV (by simp), vl, vd, fun h => by have := (hM _ h).1; omega, fun h => by have := (hM _ h).1; omega⟩).mono ?_
  · have nl : z + 1 ∉ K := fun h => by rcases hK _ h with h2 | ⟨h2, _⟩; have := hown _ h2; omega; omega
    have nd : z ∉ K := fun h => by rcases hK _ h with h2 | ⟨h2, _⟩; have := hown _ h2; omega; omega
    exact ⟨hI s M' X Y K hs.1 hf fun i hi => (hK i hi).imp id fun h => ⟨by omega, h.2⟩, hf.blk hs.2.1 nl, hf.blk hs.2.2.1 nd, hs.2.2.2⟩
  · rintro pre x M' W ⟨hi, hl, hd, nl, nd⟩ hlen m'
    refine yield_any (m := n - 1 - 1) m' ?_
    have hy := run_yield (P := P) (args := encs x) hl (by rw [hrc]; exact hps x)
    rw [hrc] at hy
    refine ⟨fn, _, assign, body, hy, roundIn_of_wpIn hfn (wpIn_mono (hround (z + 1) pre x M' W (by omega) (lt_of hl) hi nl hlen) ?_)⟩
    clear hy
    rintro ex a1 W1 hp
    cases ex with
    | normal =>
      obtain ⟨r1, hb⟩ := hp
      have l1 := r1.blk hl (by simp)
      have d1 := r1.blk hd (by simp)
      refine ⟨_, run_beginRound l1 (by rw [hrc]), ?_⟩
      have f2 := fr_put (.loop { rc .ready with state := .busy }) l1
      have l2 : (W1.putObj (z + 1) (.loop { rc .ready with state := .busy })).heap[z + 1]? = some (.loop { rc .ready with state := .busy }) := World.putObj_heap_same (Array.getElem?_eq_some_iff.1 l1).1
      have d2 := f2.blk d1 (by simp)
      refine wpIn_mono (hb _ f2) ?_
      rintro ex a3 W3 hp
      cases ex with
      | normal =>
        obtain ⟨M2, i3, r3, m3⟩ := hp
        have l3 := r3.blk l2 nl
        have d3 := r3.blk d2 nd
        have he := run_endRound (P := P) none l3
        have f4 := fr_put (.loop { ({ rc .ready with state := .busy } : Loop) with state := .ready, pending := none }) l3
        have hzW := lt_of hl
        have n2l : z + 1 ∉ M2 := fun h => by rcases m3 _ h with h2 | h2; exact nl h2; omega
        have n2d : z ∉ M2 := fun h => by rcases m3 _ h with h2 | h2; exact nd h2; omega
        refine ⟨_, _, he, rfl, M2, ⟨hI _ M2 W3 _ [z + 1] i3 f4 (fun i hi => by simp at hi; subst hi; exact .inr ⟨by omega, n2l⟩), ?_, f4.blk d3 (by simp), n2l, n2d⟩, ?_, m3⟩
        · rw [hrc]; rw [hrc] at l3; exact World.putObj_heap_same (Array.getElem?_eq_some_iff.1 l3).1
        · exact ((r1.nil.trans (f2.mono (by simp))).trans (r3.mono (by simp; exact fun i hi => .inr hi))).trans (f4.mono (by simp))
      | ret => exact hp.elim
      | exit id => exact hp.elim
      | goto t => exact hp.elim
      | panic ch => exact hp.elim
      | outgrown => exact hp.elim
    | ret => exact hp.elim
    | exit id => exact hp.elim
    | goto t => exact hp.elim
    | panic ch => exact hp.elim
    | outgrown => exact hp.elim
  · rintro e W2 ⟨⟨v, rfl⟩, xs, M2, hA, hi, hl, hd, nl, nd⟩
    have he := run_endLoop (P := P) hl (by rw [hrc]; simp)
    have f4 := fr_put (.loop { rc .ready with state := .exhausted }) hl
    refine ⟨none, _, by rw [hrc] at he; rw [hrc]; exact he, hdone z xs M2 _ (Nat.le_refl _) hA (hI _ M2 W2 _ [z + 1] hi f4 (fun i hi2 => by simp at hi2; subst hi2; exact .inr ⟨by omega, nl⟩)) nd (f4.blk hd (by simp))⟩
end Go.Proofs.Ytciejmlhdmjajaa

