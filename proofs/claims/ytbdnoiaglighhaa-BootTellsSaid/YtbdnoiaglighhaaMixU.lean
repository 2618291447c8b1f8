/- Append, and a small array built, as a step of a statement whose order is open (MixT). Over any program. No statement is proved here. -/
import Derived.Test.YtbdnoiaglighhaaMixA
import Derived.Test.YtbdnoiaglighhaaMixT
namespace Go.Proofs.Ytbdnoiaglighhaa
set_option linter.unusedVariables false
set_option linter.unusedSimpArgs false
open Go.RowKit
section
variable {P : Program} {w : World} {A : Option Addr} {xs news : List Value}
theorem wpTr_appAny {ops : Array Oper} {C : World → Prop} {K : Act → World → Prop} {i : Nat} {tr : Tr} {a : Act} {o : Oper} {t e : TypeId} {z : Value} {size bytes : Nat} (S : SliceOf P t e z size bytes)
    (hoi : ops[i]? = some o) (hgd : o.guard = none) (s x : Operand) (ho : o.op = .call { callee := .builtin .append, args := #[s, x], argTypes := #[t, t] })
    {base : Nat} {v : Value} {n : Nat} (hs : a.eval s = v) {m c : Nat} (hx : a.eval x = .slice A m c)
    (hown : w.ownsRow base e size v n xs) (hr : Rd w A news) (hm : news.length = m * size) (h1 : ∀ u ∈ news, u.oneCell' = true) (hbytes : (n + m) * bytes ≤ 140737488355328) (h63 : n + m ≤ maxLen) (hbase : base ≤ w.heap.size)
    (h : ∀ v' w', w'.ownsRow base e size v' (n + m) (xs ++ news) → w.grownBy w' v.ownBlock → (v'.ownBlock = v.ownBlock ∨ v'.ownBlock = some w.heap.size) → C w' ∧ wpTr P ops C K tr (a.put o.dst v') w') :
    wpTr P ops C K (.go i tr) a w := by
  obtain ⟨v', w', hrun, h2, h3, h4⟩ := run_appAny (P := P) (ty := o.type) S hown c hr hm h1 hbytes h63 hbase
  have hw := h v' w' h2 h3 h4
  refine wpTr_turn hoi hgd (v := v') (w' := w') ?_ hw.1 hw.2
  unfold execOp
  simp only [ho, resolve, invoke, builtin, Sem.run_bind, Sem.run_pure, Result.andThen_ok, List.map_toArray, List.map_cons, List.map_nil, hs, hx, hrun]
end
end Go.Proofs.Ytbdnoiaglighhaa
