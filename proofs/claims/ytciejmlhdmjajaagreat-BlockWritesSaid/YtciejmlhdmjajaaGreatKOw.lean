/- Slices of structs that come in, with what the row says of their sizes: each text within them is no longer than a process's memory. Rows that a call made itself, from a block number B on: appends to them in one law each; what is read of them behind the call. -/
import Derived.Test.YtciejmlhdmjajaaGreatKSo
import Derived.Test.YtciejmlhdmjajaaGreatKRw
import Derived.SizedLaws
import Derived.Deep.AppendLies
namespace Go.Proofs.YtciejmlhdmjajaaGreat
open Go.RowKit
set_option linter.unusedVariables false
set_option linter.unusedSimpArgs false

theorem weightsAll_mem {H : Type} {P : Program} {e : TypeId} {d : DataW H} : ∀ {l : List (DataW H)}, d ∈ l → ∀ n ∈ d.weights P e, n ∈ DataW.weightsAll P e l
  | [], h => by cases h
  | x :: l, h => fun n hn => by
    rw [DataW.weightsAll, List.mem_append]
    rcases List.mem_cons.1 h with rfl | h
    · exact .inl hn
    · exact .inr (weightsAll_mem h n hn)

/-- A field's text is among what is weighed. -/
theorem text_le {H : Type} {P : Program} {fs : Array Field} {ys : List (DataW H × List MemPlace)} {j : Nat} {f : Field} {y : DataW H × List MemPlace} {s : ByteArray}
    (hw : ∀ n ∈ DataW.weightsEach P (fs.toList.map (·.type)) (ys.map (·.1)), n ≤ reachBytes) (hf : fs[j]? = some f) (hy : ys[j]? = some y) (hs : y = (.lit (.string s.data.toList), [])) : s.size ≤ 140737488351232 := by
  have := hw s.data.toList.length (DataW.weights_mem_each (j := j) (t := f.type) (d := y.1) (by simp [hf]) (by simp [hy]) _ (by rw [hs]; simp [DataW.weights]))
  have hr : reachBytes = 140737488351232 := by decide
  rw [hr] at this
  simpa using this

open Go.ChangeShapes Go.WideShapes Go.Deep in
theorem open_structs_w {H : Type} {α : Type} {henc : TypeId × Value → H} {P : Program} {w : World} {t e : TypeId} {fs : Array Field} {v : Value} {d : DataW H} {ps : List MemPlace} {b0 : Nat} {r : Reach} (enc : α → List Value) (ok : α → Prop)
    (ht : P.underlying t = some (.slice e)) (he : P.underlying e = some (.struct fs)) (hone : oneCellFields P fs = true) (hC : P.cellsOf e = fs.size) (hpos : 0 < fs.size)
    (hval : Value.okWide P w r b0 t v) (hd : DataW.Trod henc P w 0 (fun _ => true) true t v d ps) (hlen : ∀ x, (enc x).length = fs.size) (hwt : ∀ n ∈ d.weights P t, n ≤ reachBytes)
    (hel : ∀ a : Addr, ∀ n : Nat, (∃ ys : List (DataW H × List MemPlace), (∀ n ∈ DataW.weightsEach P (fs.toList.map (·.type)) (ys.map (·.1)), n ≤ reachBytes) ∧
        ∀ (j : Nat) (f : Field), fs[j]? = some f → ∃ (v : Value) (y : DataW H × List MemPlace), w.cell? (a.add j) = some v ∧ ys[j]? = some y ∧ DataW.trod henc P w 0 (fun _ => true) true n f.type [v] = some y) →
      ∃ x, ok x ∧ ∀ j u, (enc x)[j]? = some u → w.cell? (a.add j) = some u) :
    ∃ a0 cap, ∃ xs : List α, v = .slice a0 xs.length cap ∧ xs.length ≤ maxLen ∧ SlOf enc fs.size w a0 xs ∧ ∀ x, x ∈ xs → ok x := by
  obtain ⟨a0, len, cap, rfl⟩ := okWide_slice ht hval
  obtain ⟨fuel, hf⟩ := hd
  rcases open_slice_fields ht he hone hC hf with ⟨hcs, hx⟩ | ⟨a, len', cap', m, D, Pl, hcs, _, hl, hm, hmm, hx, hi⟩
  · simp [Value.cells] at hcs
    obtain ⟨rfl, rfl, rfl⟩ := hcs
    exact ⟨none, 0, [], rfl, by simp [maxLen], fun h => absurd rfl h, fun x hx => by cases hx⟩
  · simp [Value.cells] at hcs
    obtain ⟨rfl, rfl, rfl⟩ := hcs
    have hmm' : m = cap := by simpa using hmm
    have hd1 : d = .slice ((List.range len).map D) ((List.range (m - len)).map fun j => D (len + j)) := congrArg Prod.fst hx
    obtain ⟨xs, hxl, hxs⟩ := choose_list (n := len) (p := fun i x => ok x ∧ ∀ j u, (enc x)[j]? = some u → w.cell? ((a.add (i * fs.size)).add j) = some u) (fun i hi' => by
      obtain ⟨ys, n, hDi, _, _, hcell⟩ := hi i (by omega)
      have hwd : ∀ n ∈ (D i).weights P e, n ≤ reachBytes := fun n hn => hwt n (by
        rw [hd1, DataW.weights, ht]
        simp only [List.mem_cons, List.mem_append]
        exact .inr (.inl (weightsAll_mem (List.mem_map.2 ⟨i, List.mem_range.2 hi', rfl⟩) n hn)))
      rw [hDi, DataW.weights, he] at hwd
      obtain ⟨x, hx1, hx2⟩ := hel (a.add (i * fs.size)) n ⟨ys, hwd, fun j f hj => by
        obtain ⟨u, y, h1, h2, h3⟩ := hcell j f hj
        exact ⟨u, y, by rw [Go.Deep.add_add]; exact h1, h2, h3⟩⟩
      exact ⟨x, hx1, hx2⟩)
    refine ⟨some a, cap, xs, by rw [hxl], by rw [hxl]; exact Nat.le_trans hl hm, fun hne => ?_, fun x hx => ?_⟩
    · obtain ⟨x, xs', rfl⟩ := List.exists_cons_of_ne_nil hne
      have h0 := (hxs 0 x rfl).2 0
      have hu : ∃ u, (enc x)[0]? = some u := ⟨(enc x)[0]'(by rw [hlen]; exact hpos), List.getElem?_eq_getElem _⟩
      obtain ⟨u, hu⟩ := hu
      have hc := h0 u hu
      have hlt := block_lt_of_cell hc
      obtain ⟨b, o, sp⟩ := a
      have hsp : sp = none := by
        cases sp with
        | none => rfl
        | some s =>
          simp [Addr.add, World.cell?] at hc
          split at hc <;> simp_all
      subst hsp
      refine ⟨b, o, rfl, by simpa [Addr.add] using hlt, fun i x hi j u hu => ?_⟩
      have := (hxs i x hi).2 j u hu
      rw [add_none, add_none, Nat.add_assoc] at this
      exact this
    · obtain ⟨i, hi'⟩ := List.mem_iff_getElem?.1 hx
      exact (hxs i x hi').1
end Go.Proofs.YtciejmlhdmjajaaGreat
namespace Go.Proofs.YtciejmlhdmjajaaGreat
open Go.RowKit
set_option linter.unusedVariables false
set_option linter.unusedSimpArgs false

/-- What is asked of an element's type. -/
def Elem (P : Program) (t e : TypeId) (size bytes : Nat) : Prop :=
  P.underlying t = some (.slice e) ∧ ∃ i z, P.info? e = some i ∧ i.zero = some z ∧ i.size = size ∧ i.bytes = bytes ∧ z.cells.size = size ∧ 0 < size

theorem below_grown {B : Nat} {w a b : World} {row : Option Nat} (h : Below B w a) (hg : a.grownBy b row) (hB : B ≤ a.heap.size) (hr : ∀ g, row = some g → B ≤ g) : Below B w b :=
  ⟨hg.os.trans h.os, hg.tape.trans h.tape, hg.output.trans h.output, Nat.le_trans h.size hg.size, fun k hk => (hg.block k (by omega) (fun e => by have := hr k e.symm; omega)).trans (h.block k hk)⟩

/-- Behind a push: the new row. -/
structure Pushed (B : Nat) (w0 w w' : World) (e : TypeId) (size : Nat) (v : Value) (g cap n : Nat) (xs : List Value) : Prop where
  own : w'.ownsRow B e size (.slice (some ⟨g, 0, none⟩) n cap) n xs
  grown : w.grownBy w' v.ownBlock
  below : Below B w0 w'
  ge : B ≤ g
  lt : g < w'.heap.size
  or_ : v.ownBlock = some g ∨ w.heap.size ≤ g

theorem Pushed.keep {B : Nat} {w0 w w' : World} {e : TypeId} {size : Nat} {v : Value} {g cap n : Nat} {xs : List Value} {cs : Array Value} {k : Nat} {o : Obj} (h : Pushed B w0 (w.alloc (.cells cs e)) w' e size v g cap n xs) (hk : w.heap[k]? = some o) (hne : v.ownBlock ≠ some k) : w'.heap[k]? = some o := by
  have h1 := (Fr.alloc [] w (.cells cs e)).blk hk (by simp)
  rw [h.grown.block k (lt_of h1) (fun e => hne e.symm)]
  exact h1
theorem own_ne {w : World} {B : Nat} {e : TypeId} {size : Nat} {v : Value} {n : Nat} {xs : List Value} {k : Nat} (h : w.ownsRow B e size v n xs) (hk : w.heap.size ≤ k) : v.ownBlock ≠ some k := fun hc => by have := (h.lt k hc).2; omega

set_option maxHeartbeats 400000 in
/-- 'append(row, x..)', the x just put into a new block. -/
theorem wpList_push {P : Program} (B : Nat) (W w0 : World) {ops : Array Oper} {rest : List Oper} {o : Oper} {a : Act} {Q : Exit → Act → World → Prop} (hgd : o.guard = none) (s x : Operand) (t : TypeId)
    (ho : o.op = .call { callee := .builtin .append, args := #[s, x], argTypes := #[t, t] })
    (e : TypeId) (size bytes : Nat) (E : Elem P t e size bytes) (v : Value) (n : Nat) (xs : List Value) (hs : a.eval s = v) (hown : Hid (w0.ownsRow B e size v n xs)) (hB : Hid (Below B W w0)) (hBs : B ≤ w0.heap.size)
    (cs : Array Value) (m c : Nat) (hx : a.eval x = .slice (some ⟨w0.heap.size, 0, none⟩) m c) (hl : cs.size = m * size) (h1 : cs.toList.all Value.oneCell' = true) (hm : 0 < m)
    (h63 : n + m ≤ 9223372036854775807) (hbytes : (n + m) * bytes ≤ 140737488355328)
    (h : ∀ g cap w', Hid (Pushed B W (w0.alloc (.cells cs e)) w' e size v g cap (n + m) (xs ++ cs.toList)) → wpList P ops Q rest (a.put o.dst (.slice (some ⟨g, 0, none⟩) (n + m) cap)) w') :
    wpList P ops Q (o :: rest) a (w0.alloc (.cells cs e)) := by
  obtain ⟨ht, i, z, hi, hz, hsz, hby, hzs, hpos⟩ := E
  refine wpList_append_lies _ hgd s x t ho B e i z size bytes ht hi hz hsz hby hzs hpos v n xs hs (hown.out.alloc _) ⟨w0.heap.size, 0, none⟩ m c cs.toList hx (by simpa using hl) (World.news_of_block (heap_alloc_new w0 _)) (fun u hu => ?_) hm (by unfold maxLen; omega) hbytes (by simp; omega) _ rfl ?_
  · exact List.all_eq_true.1 h1 u hu
  · intro g cap w' k1 k2 k3 k4
    have hge := (k1.lt g rfl).1
    refine h g cap w' (Lib.hid ⟨k1, k2, ?_, hge, k4, k3.imp_right (fun e => by rw [e]; exact Nat.le_refl _)⟩)
    exact below_grown (hB.out.alloc hBs _) k2 (by simp; omega) (fun g' hg' => (hown.out.lt g' hg').1)

/-- Behind an append that may add nothing. -/
structure Appd (B : Nat) (w0 w w' : World) (e : TypeId) (size : Nat) (v v' : Value) (n : Nat) (xs : List Value) : Prop where
  own : w'.ownsRow B e size v' n xs
  grown : w.grownBy w' v.ownBlock
  below : Below B w0 w'

theorem Appd.keep {B : Nat} {w0 w w' : World} {e : TypeId} {size : Nat} {v v' : Value} {n : Nat} {xs : List Value} {k : Nat} {o : Obj} (h : Appd B w0 w w' e size v v' n xs) (hk : w.heap[k]? = some o) (hne : v.ownBlock ≠ some k) : w'.heap[k]? = some o := by
  rw [h.grown.block k (lt_of hk) (fun e => hne e.symm)]
  exact hk
theorem wpList_text {P : Program} (B : Nat) (W w : World) {ops : Array Oper} {rest : List Oper} {o : Oper} {a : Act} {Q : Exit → Act → World → Prop} (hgd : o.guard = none) (sl x : Operand) (t u : TypeId)
    (ho : o.op = .call { callee := .builtin .append, args := #[sl, x], argTypes := #[t, u] })
    (e : TypeId) (E : P.underlying t = some (.slice e) ∧ P.underlying u = some .string ∧ ∃ i, P.info? e = some i ∧ i.zero = some (.int .u8 0) ∧ i.size = 1 ∧ i.bytes = 1)
    (v : Value) (n : Nat) (xs : List Value) (hs : a.eval sl = v) (hown : Hid (w.ownsRow B e 1 v n xs)) (hB : Hid (Below B W w)) (hBs : B ≤ w.heap.size) (s : ByteArray) (hx : a.eval x = .string s) (h63 : n + s.size ≤ 140737488355328)
    (h : ∀ ao cap w', Hid (Appd B W w w' e 1 v (.slice ao (n + s.size) cap) (n + s.size) (xs ++ Lib.byteCells s.data.toList)) → wpList P ops Q rest (a.put o.dst (.slice ao (n + s.size) cap)) w') : wpList P ops Q (o :: rest) a w := by
  obtain ⟨ht, hu, i, hi, hz, hsize, hby⟩ := E
  refine wpList_plain hgd fun K hK => ?_
  obtain ⟨v', w', hr, h2, h3, h4⟩ := Lib.run_append_own_string (P := P) w B t u o.type e i ht hu hi hz hsize hby v n xs hown.out s (by unfold maxLen; omega) h63 hBs
  unfold Oper.wp execOp
  simp only [ho, resolve, invoke, builtin, Sem.run_bind, Sem.run_pure, Result.andThen_ok, List.map_toArray, List.map_cons, List.map_nil, hs, hx, hr]
  have h2' := h2
  rcases h2'.2 with ⟨rfl, h0⟩ | ⟨g, cap, cur, rfl, _⟩
  · rw [show Value.slice none 0 0 = Value.slice none (n + s.size) 0 by rw [h0]]
    refine hK _ _ (h none 0 w' (Lib.hid ⟨?_, h3, below_grown hB.out h3 hBs (fun g' hg' => (hown.out.lt g' hg').1)⟩))
    rw [← show Value.slice none 0 0 = Value.slice none (n + s.size) 0 by rw [h0]]
    exact h2
  · exact hK _ _ (h _ cap w' (Lib.hid ⟨h2, h3, below_grown hB.out h3 hBs (fun g' hg' => (hown.out.lt g' hg').1)⟩))

theorem flatMap_get {α : Type} {enc : α → List Value} {sz : Nat} (hlen : ∀ x, (enc x).length = sz) {l : List α} {i j : Nat} {x : α} {u : Value} (hi : l[i]? = some x) (hj : j < sz) (hu : (enc x)[j]? = some u) : (l.flatMap enc)[i * sz + j]? = some u := by
  induction l generalizing i with
  | nil => simp at hi
  | cons y l ih =>
    cases i with
    | zero =>
      simp at hi; subst hi
      rw [List.flatMap_cons, Nat.zero_mul, Nat.zero_add, List.getElem?_append_left (by rw [hlen]; exact hj)]
      exact hu
    | succ i =>
      rw [List.flatMap_cons, List.getElem?_append_right (by rw [hlen, Nat.succ_mul]; omega), hlen, show (i + 1) * sz + j - sz = i * sz + j by rw [Nat.succ_mul]; omega]
      exact ih (by simpa using hi)
/-- A row of structs, as a slice that is read. -/
theorem slOf_own {α : Type} {enc : α → List Value} {sz : Nat} {w : World} {B : Nat} {e : TypeId} {v : Value} {n : Nat} {l : List α} (hlen : ∀ x, (enc x).length = sz) (h : w.ownsRow B e sz v n (l.flatMap enc)) (hn : n = l.length) :
    ∃ a0 cap, v = .slice a0 l.length cap ∧ SlOf enc sz w a0 l := by
  subst hn
  rcases h.2 with ⟨rfl, h0⟩ | ⟨g, cap, cur, rfl, hb, hg, _⟩
  · refine ⟨none, 0, by rw [h0], fun hx => absurd (List.eq_nil_of_length_eq_zero h0) hx⟩
  · refine ⟨_, cap, rfl, fun hx => ⟨g, 0, rfl, (Array.getElem?_eq_some_iff.1 hg).1, fun i x hi j u hu => ?_⟩⟩
    have hc := h.cells (g := g) rfl (i * sz + j) u ?_
    · rw [add_none] at hc; exact hc
    · have hj : j < sz := by rw [← hlen x]; exact (List.getElem?_eq_some_iff.1 hu).1
      exact flatMap_get hlen hi hj hu
end Go.Proofs.YtciejmlhdmjajaaGreat

