/- Slices of an array that lies at the start of a block. Over any program. No statement is proved here. -/
import Derived.Test.YtbdnoiaglighhaaMem
namespace Go.Proofs.Ytbdnoiaglighhaa
set_option linter.unusedVariables false
set_option linter.unusedSimpArgs false
open Go.RowKit

/-- Type t is an array of n elements of one cell. -/
def ArrOf (P : Program) (t : TypeId) (n : Nat) : Prop := ∃ e, P.underlying t = some (.array n e) ∧ (P.info? e).map (·.size) = some 1
section
variable {P : Program} {t n : Nat}
theorem ArrOf.elem (h : ArrOf P t n) : P.underlying t = some (.array (P.arrayLen t) (P.elem t)) ∧ P.arrayLen t = n ∧ ∀ w, (sizeOf (P.elem t)).run P w = .ok 1 w := by
  obtain ⟨e, h1, h2⟩ := h
  have e1 : P.elem t = e := by simp [Program.elem, h1]
  have e2 : P.arrayLen t = n := by simp [Program.arrayLen, h1]
  refine ⟨by rw [e1, e2]; exact h1, e2, fun w => ?_⟩
  rw [e1]
  cases hi : P.info? e with
  | none => simp [hi] at h2
  | some i =>
    have : i.size = 1 := by simpa [hi] using h2
    simp [sizeOf, typeInfo, hi, this]
/-- x[l:h], x an array, l < n. -/
theorem ArrOf.lh (h : ArrOf P t n) (b o l m : Nat) {L H : Int} (hL : L = l) (hH : H = m) (h1 : l ≤ m) (h2 : m ≤ n) (h3 : l < n) (w : World) :
    (Instr.sliceAt t (.pointer (some ⟨b, o, none⟩)) (some (.int .i64 L)) (some (.int .i64 H)) none).run P w = .ok (.slice (some ⟨b, o + l, none⟩) (m - l) (n - l)) w := by
  obtain ⟨e1, e2, e3⟩ := h.elem
  subst hL hH
  rw [run_sliceAt_array_lh w t _ e1 .i64 .i64 _ _ (by omega) (by omega) (by omega), e3]
  simp [slicedAt, e2, add_lit, show ¬ n = l by omega]
/-- x[l:]. -/
theorem ArrOf.l (h : ArrOf P t n) (b o l : Nat) {L : Int} (hL : L = l) (h3 : l < n) (w : World) :
    (Instr.sliceAt t (.pointer (some ⟨b, o, none⟩)) (some (.int .i64 L)) none none).run P w = .ok (.slice (some ⟨b, o + l, none⟩) (n - l) (n - l)) w := by
  obtain ⟨e1, e2, e3⟩ := h.elem
  subst hL
  rw [run_sliceAt_array_l w t _ e1 .i64 _ (by omega) (by omega), e3]
  simp [slicedAt, e2, add_lit, show ¬ n = l by omega]
/-- x[:h]. -/
theorem ArrOf.h (h : ArrOf P t n) (b o m : Nat) {H : Int} (hH : H = m) (h2 : m ≤ n) (w : World) :
    (Instr.sliceAt t (.pointer (some ⟨b, o, none⟩)) none (some (.int .i64 H)) none).run P w = .ok (.slice (some ⟨b, o, none⟩) m n) w := by
  obtain ⟨e1, e2, e3⟩ := h.elem
  subst hH
  rw [run_sliceAt_array_h w t _ e1 .i64 _ (by omega) (by omega), e3]
  simp [slicedAt, e2, add_lit]
/-- x[:]. -/
theorem ArrOf.all (h : ArrOf P t n) (b o : Nat) (w : World) :
    (Instr.sliceAt t (.pointer (some ⟨b, o, none⟩)) none none none).run P w = .ok (.slice (some ⟨b, o, none⟩) n n) w := by
  obtain ⟨e1, e2, e3⟩ := h.elem
  rw [run_sliceAt_array_all w t _ e1, e3]
  simp [slicedAt, e2, add_lit]
end
theorem IntKind.wrap_i64_small {n : Int} (h0 : 0 ≤ n) (h1 : n < 1000000) : IntKind.i64.wrap n = n := by rw [IntKind.wrap_i64]; omega
/-- A call of a function that the source names: it is entered. -/
theorem exec_enter {P : Program} {o : Oper} {a : Act} {f : FuncId} {fn : Func} {xl : List Operand} {ats : Array TypeId} {args : List Value} (ho : o.op = .call { callee := .value (.func f), args := xl.toArray, argTypes := ats })
    (hx : xl.map a.eval = args) (hf : P.funcs[f]? = some fn) (hn : (fn.name == "runtime.NumGoroutine") = false) (hb : fn.body.isNone = false) (w : World) : (execOp a.eval o).run P w = .ok (.enter f args.toArray) w := by
  have h1 : fn.name ≠ "runtime.NumGoroutine" := by simpa using hn
  have h2 : execOp a.eval o = callFunc f args.toArray := by
    unfold execOp
    simp only [ho]
    show callFunc f (#[] ++ xl.toArray.map a.eval ++ #[]) = _
    rw [← hx]
    simp
  rw [h2]
  have hc : fn.body.isNone = true → False := fun h => by rw [hb] at h; cases h
  cases hbd : fn.body with
  | none => rw [hbd] at hb; cases hb
  | some c => simp [callFunc, hf, h1, hbd]
end Go.Proofs.Ytbdnoiaglighhaa
