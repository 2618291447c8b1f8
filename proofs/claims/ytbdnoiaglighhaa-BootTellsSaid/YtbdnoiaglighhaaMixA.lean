/- Append in the tail of a statement whose order is open. Over any program. No statement is proved here. -/
import Derived.Test.YtbdnoiaglighhaaLaws
import Derived.Test.YtbdnoiaglighhaaMix
import Derived.ArgAppend
namespace Go.Proofs.Ytbdnoiaglighhaa
set_option linter.unusedVariables false
set_option linter.unusedSimpArgs false
open Go.RowKit
section
variable {P : Program} {w : World} {A : Option Addr} {xs news : List Value}
theorem wpStores_appAny {ops : Array Oper} {C : World → Prop} {K : Act → World → Prop} {i : Nat} {rest : List Nat} {a : Act} {o : Oper} {t e : TypeId} {z : Value} {size bytes : Nat} (S : SliceOf P t e z size bytes)
    (hoi : ops[i]? = some o) (hgd : o.guard = none) (s x : Operand) (ho : o.op = .call { callee := .builtin .append, args := #[s, x], argTypes := #[t, t] })
    {base : Nat} {v : Value} {n : Nat} (hs : a.eval s = v) {m c : Nat} (hx : a.eval x = .slice A m c)
    (hown : w.ownsRow base e size v n xs) (hr : Rd w A news) (hm : news.length = m * size) (h1 : ∀ u ∈ news, u.oneCell' = true) (hbytes : (n + m) * bytes ≤ 140737488355328) (h63 : n + m ≤ maxLen) (hbase : base ≤ w.heap.size)
    (h : ∀ v' w', w'.ownsRow base e size v' (n + m) (xs ++ news) → w.grownBy w' v.ownBlock → (v'.ownBlock = v.ownBlock ∨ v'.ownBlock = some w.heap.size) → C w' ∧ wpStores P ops C K rest (a.put o.dst v') w') :
    wpStores P ops C K (i :: rest) a w := by
  obtain ⟨v', w', hrun, h2, h3, h4⟩ := run_appAny (P := P) (ty := o.type) S hown c hr hm h1 hbytes h63 hbase
  have hw := h v' w' h2 h3 h4
  refine wpStores_turn hoi hgd (v := v') (w' := w') ?_ hw.1 hw.2
  unfold execOp
  simp only [ho, resolve, invoke, builtin, Sem.run_bind, Sem.run_pure, Result.andThen_ok, List.map_toArray, List.map_cons, List.map_nil, hs, hx, hrun]

/-- append(s, x...), s a slice that is full, x not empty: a new block. -/
theorem wpList_appFull {ops : Array Oper} {rest : List Oper} {o : Oper} {a : Act} {Q : Exit → Act → World → Prop} {t e : TypeId} {z : Value} {size bytes : Nat} (S : SliceOf P t e z size bytes)
    (hgd : o.guard = none) (s x : Operand) (ho : o.op = .call { callee := .builtin .append, args := #[s, x], argTypes := #[t, t] })
    {n : Nat} {B : Option Addr} (hs : a.eval s = .slice B n n) {m c : Nat} (hx : a.eval x = .slice A m c)
    (hr0 : Rd w B xs) (hl0 : xs.length = n * size) (hn0 : 0 < n) (hr : Rd w A news) (hm : news.length = m * size) (hm0 : 0 < m) (hbytes : (n + m) * bytes ≤ 140737488355328) (h63 : n + m ≤ maxLen)
    (h : ∀ v' w', w'.ownsRow w.heap.size e size v' (n + m) (xs ++ news) → w.grownBy w' none → wpList P ops Q rest (a.put o.dst v') w') : wpList P ops Q (o :: rest) a w := by
  obtain ⟨ht, hinfo, hzs, hsz⟩ := S
  obtain ⟨i, hi, hz0, hz1, hz2⟩ := info_parts hinfo
  obtain ⟨b, q, hA, _⟩ := hr.cell (k := 0) (by rw [hm]; exact Nat.mul_pos hm0 hsz)
  obtain ⟨b0, q0, hB, _⟩ := hr0.cell (k := 0) (by rw [hl0]; exact Nat.mul_pos hn0 hsz)
  subst hA hB
  obtain ⟨v', w', hrun, h2, h3⟩ := run_append_arg_grows (P := P) w t o.type e i z size bytes ht hi hz0 hz1 hz2 hzs hsz ⟨b0, q0, none⟩ n n xs hl0 (hr0.cells _ rfl) ⟨b, q, none⟩ m c news hm (hr.cells _ rfl) (by omega) h63 hbytes
  exact wpList_plain hgd fun _ hK => wp_app_of ho hs hx hrun (hK _ _ (h v' w' h2 h3))
end
end Go.Proofs.Ytbdnoiaglighhaa
