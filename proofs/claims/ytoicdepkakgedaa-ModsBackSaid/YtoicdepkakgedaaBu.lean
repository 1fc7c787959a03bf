/- What the calls of a strings.Builder do: WriteString and String (String's contract is the shelf's, laid in plain words). -/
import Derived.Test.YtoicdepkakgedaaRw
import Derived.Test.YtoicdepkakgedaaProg
import Derived.Shelf.Strings.Builder1
import Derived.Lib.Builder
import Derived.Lib.AppendStr
import Derived.Laws.Externs
import Derived.OwnWalk
namespace Go.Proofs.Ytoicdepkakgedaa
open Go.RowKit Go.Shelf
set_option linter.unusedVariables false
set_option linter.unusedSimpArgs false

def sbren : Go.Shelf.Ren := ⟨fun | 169 => 33 | n => n, fun | 70 => 59 | 9 => 9 | 0 => 0 | 72 => 62 | 37 => 60 | 127 => 78 | 3 => 3 | 5 => 5 | n => n, fun | n => n⟩
theorem sblays : Go.Proofs.Lays.n169 Try.prog sbren := {
  mixed := by kernel_rfl
  f169 := Try.func33.trans (congrArg some (by kernel_rfl))
  t0 := Try.underlying0
  a0 := Try.isAgg0
  z0 := Try.sizeOf0
  v0 := Try.zeroValue0
  t3 := Try.underlying3
  a3 := Try.isAgg3
  z3 := Try.sizeOf3
  v3 := Try.zeroValue3
  t9 := Try.underlying9
  a9 := Try.isAgg9
  z9 := Try.sizeOf9
  v9 := Try.zeroValue9
  t37 := Try.underlying60
  a37 := Try.isAgg60
  z37 := Try.sizeOf60
  v37 := Try.zeroValue60
  t70 := Try.underlying59
  a70 := Try.isAgg59
  z70 := Try.sizeOf59
  v70 := Try.zeroValue59
  t72 := Try.underlying62
  a72 := Try.isAgg62
  z72 := Try.sizeOf62
  v72 := Try.zeroValue62
  t127 := Try.underlying78
  a127 := Try.isAgg78
  z127 := Try.sizeOf78
  v127 := Try.zeroValue78 }
theorem sbextra : Builder.Extra Try.prog sbren := {
  sizeBuilder := by kernel_rfl
  liesBuilder := by kernel_rfl
  t5 := Try.underlying5
  a5 := Try.isAgg5
  z5 := Try.sizeOf5
  v5 := Try.zeroValue5
  infoByte := by kernel_rfl
  cellsByte := by kernel_rfl
  sizeByte := by kernel_rfl
  neB5 := by decide }
abbrev Sb (B b : Nat) (l : List UInt8) (w : World) : Prop := Lib.IsBuilder 62 5 B b (Lib.byteCells l) w
theorem sbString (B b : Nat) (l : List UInt8) (w : World) (h : Sb B b l w) (hBw : B ≤ w.heap.size) :
    Calls Try.prog 33 #[.pointer (some ⟨b, 0, none⟩)] w fun e w' => e = .returned (.string ⟨l.toArray⟩) ∧ Below B w w' := Any.Builder_String_any sblays sbextra B b l w h hBw

theorem sbinfo : ∃ j : TypeInfo, Try.prog.info? 62 = some j ∧ j.size = 2 := by
  obtain ⟨j, h1, h2⟩ := Option.map_eq_some_iff.1 (show (Try.prog.info? 62).map (·.size) = some 2 by kernel_rfl)
  exact ⟨j, h1, h2⟩
theorem sblies : liesAt Try.prog Try.prog.depth 62 (2 / Try.prog.cellsOf 62) 0 62 1 = true := by kernel_rfl

set_option maxHeartbeats 1000000 in
set_option maxRecDepth 100000 in
theorem sbCheck_used (b : Nat) (w : World) (h0 : w.cell? ⟨b, 0, none⟩ = some (.pointer (some ⟨b, 0, none⟩))) :
    Calls Try.prog 36 #[.pointer (some ⟨b, 0, none⟩)] w fun e w' => e = .returned (.tuple #[]) ∧ w' = w := by
  obtain ⟨j, hj, hjs⟩ := sbinfo
  have HJ := Lib.hid hj
  clear hj hjs
  go_enter Try.func36, Try.ntmps36
  go_wp2
  rw [Lib.run_neq_ptr_same w _ Try.underlying59 HJ.out]
  go_wp2
  go_end0
  exact ⟨rfl, rfl⟩

set_option maxHeartbeats 1000000 in
set_option maxRecDepth 100000 in
theorem sbCheck_fresh (b : Nat) (w : World) (h0 : w.cell? ⟨b, 0, none⟩ = some (.pointer none)) (hsh : w.shape? b = some (62, 2)) (hfz : w.frozen? ⟨b, 0, none⟩ = false) :
    Calls Try.prog 36 #[.pointer (some ⟨b, 0, none⟩)] w fun e w' => e = .returned (.tuple #[]) ∧ w' = w.setCell ⟨b, 0, none⟩ (.pointer (some ⟨b, 0, none⟩)) := by
  obtain ⟨j, hj, hjs⟩ := sbinfo
  have HJ := Lib.hid (And.intro hj hjs)
  clear hj hjs
  have HS := Lib.hid hsh
  clear hsh
  go_enter Try.func36, Try.ntmps36
  go_wp2
  rw [Lib.run_to_unsafe w ⟨b, 0, none⟩ Try.underlying59 Try.underlying80 HJ.out.1 (by rw [HJ.out.2]; decide) HS.out (Nat.zero_lt_succ 1)]
  simp only [Result.andThen]
  rw [Oper.upon_value]
  go_wp2
  rw [run_callFunc_extern Try.func38 (by kernel_rfl) (by kernel_rfl) (by kernel_rfl) (e := Extern.AbiNoEscape.same) (by kernel_rfl)]
  rw [Lib.run_noEscape]
  simp only [Result.andThen]
  rw [Oper.upon_value]
  go_wp2
  rw [Lib.run_from_unsafe w ⟨b, 0, none⟩ Try.underlying80 Try.underlying59 HJ.out.1 HS.out sblies]
  simp only [Result.andThen]
  rw [Oper.upon_value]
  go_wp2
  go_end0
  exact ⟨rfl, rfl⟩

/-- Block b is a builder that holds l; it, and its row, lie from B on. -/
structure Sbw (B : Nat) (w : World) (b : Nat) (v : Value) (l : List UInt8) : Prop where
  blk : ∃ p, (p = .pointer none ∨ p = .pointer (some ⟨b, 0, none⟩)) ∧ w.heap[b]? = some (.cells #[p, v] 62 (0, 0))
  row : w.ownsRow 0 5 1 v l.length (Lib.byteCells l)
  ne : v.ownBlock ≠ some b
  ge : ∀ i, i ∈ wfp b v → B ≤ i
theorem Sbw.to {B : Nat} {w w' : World} {b : Nat} {v : Value} {l : List UInt8} {ls : List Nat} (k : Sbw B w b v l) (f : Fr ls w w') (hl : ∀ i, i ∈ wfp b v → i ∉ ls) : Sbw B w' b v l := by
  obtain ⟨p, hp, hb⟩ := k.blk
  exact ⟨⟨p, hp, f.blk hb (hl b (by simp [wfp]))⟩, ownsRow_to k.row f (fun g hg => hl g (by simp [wfp, hg])), k.ne, k.ge⟩
theorem Sbw.inb {B : Nat} {w : World} {b : Nat} {v : Value} {l : List UInt8} (k : Sbw B w b v l) : ∀ i, i ∈ wfp b v → i < w.heap.size := fun i hi => by
  simp only [wfp, List.mem_cons, Option.mem_toList] at hi
  rcases hi with rfl | hi
  · obtain ⟨p, hp, hb⟩ := k.blk; exact lt_of hb
  · exact (k.row.lt i hi).2
theorem Sbw.fresh (w : World) : Sbw w.heap.size (w.alloc (.cells #[.pointer none, .slice none 0 0] 62)) w.heap.size (.slice none 0 0) [] :=
  ⟨⟨_, .inl rfl, new_of w _⟩, World.ownsRow_nil _ _ _ _, by simp [Value.ownBlock], by simp [wfp, Value.ownBlock]⟩

set_option maxHeartbeats 1000000 in
set_option maxRecDepth 100000 in
theorem sbWrite (B b : Nat) (v : Value) (l : List UInt8) (s : ByteArray) (w : World) (h : Sbw B w b v l) (hlen : l.length + s.size ≤ 140737488355328) :
    Calls Try.prog 32 #[.pointer (some ⟨b, 0, none⟩), .string s] w fun e w' => e = .returned (.tuple #[.int .i64 s.size, .nilIface]) ∧ ∃ v', Sbw B w' b v' (l ++ s.data.toList) ∧ NewRow w v v' ∧ Fr (wfp b v) w w' := by
  obtain ⟨i0, hi, hz0, hz1, hz2⟩ := u8info
  have H := Lib.hid (And.intro hi (And.intro hz0 (And.intro hz1 hz2)))
  clear hi hz0 hz1 hz2
  have hchk : Calls Try.prog 36 #[.pointer (some ⟨b, 0, none⟩)] w fun e w1 => e = .returned (.tuple #[]) ∧ w1.heap[b]? = some (.cells #[.pointer (some ⟨b, 0, none⟩), v] 62 (0, 0)) ∧ w1.ownsRow 0 5 1 v l.length (Lib.byteCells l) ∧ Fr [b] w w1 := by
    obtain ⟨p, hp, hb⟩ := h.blk
    rcases hp with rfl | rfl
    · refine (sbCheck_fresh b w (cell_of hb 0) (by simp [World.shape?, hb]) (free_of hb 0)).mono ?_
      rintro e w' ⟨rfl, rfl⟩
      have := set_of hb 0 (.pointer (some ⟨b, 0, none⟩))
      exact ⟨rfl, by simpa using this, ownsRow_setCell_other h.row h.ne _, Fr.setCell _ _ _ _⟩
    · refine (sbCheck_used b w (cell_of hb 0)).mono ?_
      rintro e w' ⟨rfl, rfl⟩
      exact ⟨rfl, hb, h.row, Fr.refl _ _⟩
  have HC := Lib.hid hchk
  have HH := Lib.hid h
  clear hchk h
  go_enter Try.func32, Try.ntmps32
  go_wp2_with fail
  refine HC.out.mono ?_
  rintro e w1 ⟨rfl, hbk, hown, hf1⟩
  have c0 : w1.cell? ⟨b, 0, none⟩ = some (.pointer (some ⟨b, 0, none⟩)) := cell_of hbk 0
  have c1 : w1.cell? ⟨b, 1, none⟩ = some v := cell_of hbk 1
  have hc3 : l.length + s.size ≤ maxLen := by unfold maxLen; omega
  have HK := Lib.hid (And.intro hbk (And.intro hown hf1))
  clear hbk hown hf1
  go_wp2_with (at_builtin; go_must (refine wpList_append_text _ rfl (.tmp 12) (.tmp 13) 60 9 rfl 5 i0 Try.underlying60 Try.underlying9 H.out.1 H.out.2.1 H.out.2.2.1 H.out.2.2.2 v l.length _ rfl HK.out.2.1 s rfl hc3 hlen ?_); intro v' w2 hown' hgrow hnew; obtain ⟨ao, cap, rfl⟩ := row_form hown'; have hb2 : w2.heap[b]? = some (.cells #[.pointer (some ⟨b, 0, none⟩), v] 62 (0, 0)) := (by rw [hgrow.block b (lt_of HK.out.1) (fun e => HH.out.ne e.symm)]; exact HK.out.1); have d0 : w2.cell? ⟨b, 0, none⟩ = some (.pointer (some ⟨b, 0, none⟩)) := cell_of hb2 0; have d1 : w2.cell? ⟨b, 1, none⟩ = some v := cell_of hb2 1; have f1 := free_of hb2 1; have HO := Lib.hid (And.intro hown' (And.intro hgrow (And.intro hnew hb2))); clear hown' hgrow hnew hb2)
  go_ret2
  obtain ⟨hown', hgrow, hnew, hb2⟩ := HO.out
  obtain ⟨hbk, hown, hf1⟩ := HK.out
  have hne : (Value.slice ao (l.length + s.size) cap).ownBlock ≠ some b := by
    rcases hnew with h | ⟨g, hg, hk⟩
    · rw [h]; exact HH.out.ne
    · rw [hg]; intro h; cases h; have := lt_of hbk; omega
  have hn1 : NewRow w v (Value.slice ao (l.length + s.size) cap) := (NewRow.refl w v).trans hnew hf1.size
  refine ⟨rfl, _, ⟨⟨_, .inr rfl, ?_⟩, ?_, hne, fun i hi => ?_⟩, hn1, ?_⟩
  · have := set_of hb2 1 (Value.slice ao (l.length + s.size) cap)
    simpa using this
  · have e : Lib.byteCells (l ++ s.data.toList) = Lib.byteCells l ++ Lib.strCells s := by simp [Lib.byteCells, Lib.strCells]
    rw [e, show (l ++ s.data.toList).length = l.length + s.size by simp]
    exact ownsRow_setCell_other hown' hne _
  · rcases hn1.mem i hi with h' | h'
    · exact HH.out.ge i h'
    · have := HH.out.inb b (by simp [wfp]); have := HH.out.ge b (by simp [wfp]); omega
  · exact (hf1.mono (by simp [wfp])).trans (((grown_only hgrow).mono (fun i hi => List.mem_cons_of_mem _ hi)).trans ((Fr.setCell _ _ _ _).mono (by simp [wfp])))

theorem ownsRow_base {w : World} {B : Nat} {e : TypeId} {size : Nat} {v : Value} {n : Nat} {xs : List Value} (h : w.ownsRow 0 e size v n xs) (hg : ∀ g, v.ownBlock = some g → B ≤ g) : w.ownsRow B e size v n xs := by
  obtain ⟨h1, h2⟩ := h
  refine ⟨h1, ?_⟩
  rcases h2 with h2 | ⟨g, cap, cur, hv', _, r⟩
  · exact .inl h2
  · exact .inr ⟨g, cap, cur, hv', hg g (by rw [hv']; rfl), r⟩
theorem sbText (B b : Nat) (v : Value) (l : List UInt8) (w : World) (h : Sbw B w b v l) :
    Calls Try.prog 33 #[.pointer (some ⟨b, 0, none⟩)] w fun e w' => e = .returned (.string ⟨l.toArray⟩) ∧ Below B w w' := by
  refine sbString B b l w ?_ (by have := h.inb b (by simp [wfp]); have := h.ge b (by simp [wfp]); omega)
  obtain ⟨p, hp, hb⟩ := h.blk
  have hr : w.ownsRow B 5 1 v (Lib.byteCells l).length (Lib.byteCells l) := by rw [Lib.byteCells_length]; exact ownsRow_base h.row (fun g hg => h.ge g (by simp [wfp, hg]))
  have hB : B ≤ b := h.ge b (by simp [wfp])
  rcases hp with rfl | rfl
  · exact .inl ⟨hB, v, hb, hr, h.ne⟩
  · exact .inr ⟨hB, v, hb, hr, h.ne⟩
end Go.Proofs.Ytoicdepkakgedaa
