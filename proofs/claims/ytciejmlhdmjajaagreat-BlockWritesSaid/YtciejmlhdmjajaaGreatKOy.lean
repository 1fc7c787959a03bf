/- What 'append' comes to that puts new cells behind a row of one's own, as an equation. -/
import Derived.Test.YtciejmlhdmjajaaGreatKOw
import Derived.Test.YtciejmlhdmjajaaGreatKTm
namespace Go.Proofs.YtciejmlhdmjajaaGreat
open Go.RowKit
set_option linter.unusedVariables false
set_option linter.unusedSimpArgs false

theorem push_run {P : Program} (B : Nat) (W w0 : World) (t ty e : TypeId) (size bytes : Nat) (E : Elem P t e size bytes) (v : Value) (n : Nat) (xs : List Value) (hown : w0.ownsRow B e size v n xs) (hB : Below B W w0) (hBs : B ≤ w0.heap.size)
    (cs : Array Value) (m c : Nat) (hl : cs.size = m * size) (h1 : cs.toList.all Value.oneCell' = true) (hm : 0 < m) (h63 : n + m ≤ 9223372036854775807) (hbytes : (n + m) * bytes ≤ 140737488355328) :
    ∃ g cap w', (Builtin.append_ #[t, t] ty #[v, .slice (some ⟨w0.heap.size, 0, none⟩) m c]).run P (w0.alloc (.cells cs e)) = .ok (.slice (some ⟨g, 0, none⟩) (n + m) cap) w' ∧ Pushed B W (w0.alloc (.cells cs e)) w' e size v g cap (n + m) (xs ++ cs.toList) := by
  obtain ⟨ht, i, z, hi, hz, hsz, hby, hzs, hpos⟩ := E
  obtain ⟨g, cap, w', hr, k1, k2, k3, k4⟩ := run_append_lies (P := P) (w0.alloc (.cells cs e)) t ty B e i z size bytes ht hi hz hsz hby hzs hpos v n xs (hown.alloc _) ⟨w0.heap.size, 0, none⟩ m c cs.toList (by simpa using hl) (World.news_of_block (heap_alloc_new w0 _)) (fun u hu => List.all_eq_true.1 h1 u hu) hm (by unfold maxLen; omega) hbytes (by simp; omega) _ rfl
  have hge := (k1.lt g rfl).1
  exact ⟨g, cap, w', hr, k1, k2, below_grown (hB.alloc hBs _) k2 (by simp; omega) (fun g' hg' => (hown.lt g' hg').1), hge, k4, k3.imp_right (fun e => by rw [e]; exact Nat.le_refl _)⟩
/-- At 'append', whose run is known. -/
theorem wpListIn_push {F : Fence} {m : Nat} {P : Program} {ops : Array Oper} {rest : List Oper} {o : Oper} {a : Act} {w : World} {Q : Exit → Act → World → Prop} (hgd : o.guard = none) (s x : Operand) (t : TypeId)
    (ho : o.op = .call { callee := .builtin .append, args := #[s, x], argTypes := #[t, t] }) {v u v' : Value} {w' : World} (hs : a.eval s = v) (hx : a.eval x = u)
    (hr : (Builtin.append_ #[t, t] o.type #[v, u]).run P w = .ok v' w') (h : wpListIn F m P ops Q rest (a.put o.dst v') w') : wpListIn F m P ops Q (o :: rest) a w := by
  refine wpListIn_plain hgd fun K hK => ?_
  refine wpIn_of_tame (Tame.append s x t t ho) (fun _ _ h => h) ?_
  unfold Oper.wp execOp
  simp only [ho, resolve, invoke, builtin, Sem.run_bind, Sem.run_pure, Result.andThen_ok, List.map_toArray, List.map_cons, List.map_nil, hs, hx, hr]
  exact hK _ _ h
end Go.Proofs.YtciejmlhdmjajaaGreat

