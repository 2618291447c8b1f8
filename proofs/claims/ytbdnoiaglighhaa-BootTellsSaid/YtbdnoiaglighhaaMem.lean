/- Laws of the walk for blocks that are known whole: a store into one, a load out of one, at any place; what else stays. Over any program. No statement is proved here. -/
import Derived.Test.YtbdnoiaglighhaaLaws
import Derived.Test.YtbdnoiaglighhaaMix
namespace Go.Proofs.Ytbdnoiaglighhaa
set_option linter.unusedVariables false
set_option linter.unusedSimpArgs false
open Go.RowKit

/-- Block g is just the cells cs, of element type t, none frozen. -/
def Blk (w : World) (g : Nat) (t : TypeId) (cs : List Value) : Prop := w.heap[g]? = some (.cells cs.toArray t (0, 0))

section
variable {P : Program} {w w' : World} {g : Nat} {t : TypeId} {cs : List Value}
theorem Blk.lt (h : Blk w g t cs) : g < w.heap.size := lt_of_heap h
theorem Blk.cell (h : Blk w g t cs) (i : Nat) : w.cell? ⟨g, i, none⟩ = cs[i]? := by rw [cell_of_row w g i _ t (0, 0) h]; simp
theorem Blk.cellAt (h : Blk w g t cs) {i : Nat} {v : Value} (hv : cs[i]? = some v) : w.cell? ⟨g, i, none⟩ = some v := (h.cell i).trans hv
theorem Blk.frozen (h : Blk w g t cs) (i : Nat) : w.frozen? ⟨g, i, none⟩ = false := by
  unfold Blk at h
  simp [World.frozen?, h]
theorem Blk.new (w : World) (t : TypeId) (cs : List Value) : Blk (w.alloc (.cells cs.toArray t)) w.heap.size t cs := heap_alloc_new w _
theorem Blk.alloc (h : Blk w g t cs) (o : Obj) : Blk (w.alloc o) g t cs := (Below.heap_alloc w o g h.lt).trans h
theorem Blk.drew (h : Blk w g t cs) : Blk w.drew g t cs := h
theorem Blk.drewN (h : Blk w g t cs) (n : Nat) : Blk (w.drewN n) g t cs := h
theorem Blk.below {B : Nat} (h : Blk w g t cs) (hb : Below B w w') (hg : g < B) : Blk w' g t cs := (hb.block g hg).trans h
theorem Blk.grown {row : Option Nat} (h : Blk w g t cs) (hb : w.grownBy w' row) (hg : some g ≠ row) : Blk w' g t cs := (hb.block g h.lt hg).trans h
theorem Blk.set_ (h : Blk w g t cs) (i : Nat) (u : Value) : Blk (w.setCell ⟨g, i, none⟩ u) g t (cs.set i u) := by
  unfold Blk at h ⊢
  simp [World.setCell, Array.getElem?_modify, h]
theorem Blk.far (h : Blk w g t cs) {p : Addr} (hp : g ≠ p.block) (u : Value) : Blk (w.setCell p u) g t cs := (Below.heap_setCell w p u g hp).trans h
theorem Blk.ne_ {g' : Nat} {t' : TypeId} {cs' : List Value} (h : Blk w g t cs) (h' : Blk w g' t' cs') (hne : t ≠ t') : g ≠ g' := by
  rintro rfl
  unfold Blk at h h'
  rw [h] at h'
  injection h' with h'
  injection h' with _ ht
  exact hne ht

/-- What is at a place of a block, so many cells. -/
def cut (cs : List Value) (o n : Nat) : List Value := (cs.drop o).take n
/-- Laid over it. -/
def lay (cs : List Value) (o : Nat) (vs : List Value) : List Value := cs.take o ++ (vs ++ cs.drop (o + vs.length))
theorem lay_length (cs : List Value) (o : Nat) (vs : List Value) (h : o + vs.length ≤ cs.length) : (lay cs o vs).length = cs.length := by simp [lay]; omega
theorem lay_one (cs : List Value) (o : Nat) (v : Value) (h : o < cs.length) : lay cs o [v] = cs.set o v := by
  unfold lay; rw [List.set_eq_take_append_cons_drop, if_pos h]; rfl
theorem lay_all (cs vs : List Value) (h : vs.length = cs.length) : lay cs 0 vs = vs := by simp [lay, h]

theorem Blk.rd (h : Blk w g t cs) {o n : Nat} (hn : o + n ≤ cs.length) : Rd w (some ⟨g, o, none⟩) (cut cs o n) := by
  intro _
  refine ⟨g, o, rfl, cs.toArray, t, (0, 0), h, fun i hi => ?_⟩
  unfold cut at hi ⊢
  rw [List.getElem?_take_of_lt (by simp at hi; omega), List.getElem?_drop]
  simp
theorem Blk.rdAll (h : Blk w g t cs) : Rd w (some ⟨g, 0, none⟩) cs := by
  have := h.rd (o := 0) (n := cs.length) (by omega)
  simpa [cut] using this

theorem run_store_at {ty : TypeId} {off : Nat} {v : Value} {vs : List Value} (hb : Blk w g t cs) (hv : v.cells = vs.toArray) (hi : (P.info? ty).map (·.size) = some vs.length) (hfit : off + vs.length ≤ cs.length) (h1 : ∀ u ∈ vs, u.oneCell' = true) :
    (Instr.storeAt ty (.pointer (some ⟨g, off, none⟩)) v).run P w = .ok () (w.setRow g (lay cs off vs).toArray) := by
  have hst := run_storeCells_at P g off t vs 0 cs.toArray w hb (by simpa using hfit) h1
  cases hq : P.info? ty with
  | none => simp [hq] at hi
  | some i =>
    have hs : i.size = vs.length := by simp [hq] at hi; omega
    simp only [Instr.storeAt, Instr.sureAddr, Sem.run_bind, Sem.run_pure, Result.andThen]
    simp [storeVar, sizeOf, typeInfo, hq, hv, hs, lay]
    simpa using hst

/-- A store, of whatever size, into a block that is known whole. -/
theorem wpList_put {ops : Array Oper} {rest : List Oper} {o : Oper} {a : Act} {Q : Exit → Act → World → Prop} (hgd : o.guard = none) (ty : TypeId) (x y : Operand) (ho : o.op = .store ty x y)
    {off : Nat} {v : Value} (hx : a.eval x = .pointer (some ⟨g, off, none⟩)) (hy : a.eval y = v) (hb : Blk w g t cs) {vs : List Value} (hv : v.cells = vs.toArray) (hi : (P.info? ty).map (·.size) = some vs.length) (hfit : off + vs.length ≤ cs.length) (h1 : ∀ u ∈ vs, u.oneCell' = true)
    (h : ∀ w', Blk w' g t (lay cs off vs) → w.grownBy w' (some g) → wpList P ops Q rest (a.put o.dst undef) w') : wpList P ops Q (o :: rest) a w := by
  refine wpList_plain hgd fun K hK => ?_
  have hrun := run_store_at (P := P) hb hv hi hfit h1
  unfold Oper.wp execOp
  simp only [ho, hx, hy, Sem.run_bind, hrun, Result.andThen_ok, Sem.run_pure]
  refine hK _ _ (h _ ?_ ?_)
  · exact setRow_heap w g _ _ t _ hb
  · exact ⟨rfl, rfl, rfl, by simp [World.setRow], fun k _ hk => setRow_other w g k _ (fun e => hk (by rw [e]))⟩

/-- A load of one cell out of a block that is known whole. -/
theorem wpList_get1 {ops : Array Oper} {rest : List Oper} {o : Oper} {a : Act} {Q : Exit → Act → World → Prop} (hgd : o.guard = none) (ty : TypeId) (x : Operand) (ho : o.op = .load ty x)
    {off : Nat} {v : Value} {d : TypeDesc} (hx : a.eval x = .pointer (some ⟨g, off, none⟩)) (hb : Blk w g t cs) (hv : cs[off]? = some v) (hu : P.underlying ty = some d) (hd : (match d with | .struct _ | .array _ _ => true | _ => false) = false)
    (h : wpList P ops Q rest (a.put o.dst v) w) : wpList P ops Q (o :: rest) a w := by
  refine wpList_plain hgd fun K hK => ?_
  have hc := hb.cellAt hv
  unfold Oper.wp execOp
  cases d <;> simp at hd <;> simp [ho, hx, Instr.loadAt, Instr.sureAddr, loadVar, isAgg, run_underlying hu, hc, Sem.run] <;> exact hK _ _ h

theorem run_loadVar_at {ty : TypeId} {off n : Nat} {d : TypeDesc} (hb : Blk w g t cs) (hu : P.underlying ty = some d) (hd : (match d with | .struct _ | .array _ _ => true | _ => false) = true) (hi : (P.info? ty).map (·.size) = some n) (hfit : off + n ≤ cs.length) :
    (loadVar ty ⟨g, off, none⟩).run P w = .ok (.agg (cut cs off n).toArray) w := by
  have hl := run_loadCells_list (P := P) w ⟨g, off, none⟩ (cut cs off n) (fun j v hj => by
    rw [add_lit, hb.cell]
    unfold cut at hj
    have hjl := (List.getElem?_eq_some_iff.1 hj).1
    rw [List.getElem?_take_of_lt (by simp at hjl; omega), List.getElem?_drop] at hj
    exact hj)
  have hlen : (cut cs off n).length = n := by simp [cut]; omega
  rw [hlen] at hl
  cases hq : P.info? ty with
  | none => simp [hq] at hi
  | some i =>
    have hs : i.size = n := by simp [hq] at hi; omega
    cases d <;> simp at hd <;> simp [loadVar, isAgg, run_underlying hu, sizeOf, typeInfo, hq, hs, hl]

/-- A load of an array or a struct out of a block that is known whole. -/
theorem wpList_getN {ops : Array Oper} {rest : List Oper} {o : Oper} {a : Act} {Q : Exit → Act → World → Prop} (hgd : o.guard = none) (ty : TypeId) (x : Operand) (ho : o.op = .load ty x)
    {off n : Nat} {d : TypeDesc} (hx : a.eval x = .pointer (some ⟨g, off, none⟩)) (hb : Blk w g t cs) (hu : P.underlying ty = some d) (hd : (match d with | .struct _ | .array _ _ => true | _ => false) = true) (hi : (P.info? ty).map (·.size) = some n) (hfit : off + n ≤ cs.length)
    (h : wpList P ops Q rest (a.put o.dst (.agg (cut cs off n).toArray)) w) : wpList P ops Q (o :: rest) a w := by
  refine wpList_plain hgd fun K hK => ?_
  have hrun := run_loadVar_at (P := P) hb hu hd hi hfit
  unfold Oper.wp execOp
  simp only [ho, hx, Instr.loadAt, Instr.sureAddr, Sem.run_bind, Sem.run_pure, Result.andThen_ok, hrun]
  exact hK _ _ h

theorem cut_all (cs : List Value) (n : Nat) (h : cs.length = n) : cut cs 0 n = cs := by subst h; simp [cut]
/-- A load of a whole block. -/
theorem wpList_getAll {ops : Array Oper} {rest : List Oper} {o : Oper} {a : Act} {Q : Exit → Act → World → Prop} (hgd : o.guard = none) (ty : TypeId) (x : Operand) (ho : o.op = .load ty x)
    {d : TypeDesc} (hx : a.eval x = .pointer (some ⟨g, 0, none⟩)) (hb : Blk w g t cs) (hu : P.underlying ty = some d) (hd : (match d with | .struct _ | .array _ _ => true | _ => false) = true) {n : Nat} (hi : (P.info? ty).map (·.size) = some n) (hn : cs.length = n)
    (h : wpList P ops Q rest (a.put o.dst (.agg cs.toArray)) w) : wpList P ops Q (o :: rest) a w :=
  wpList_getN hgd ty x ho hx hb hu hd hi (by omega) (by rw [cut_all _ _ hn]; exact h)
/-- A store of a whole block. -/
theorem wpList_putAll {ops : Array Oper} {rest : List Oper} {o : Oper} {a : Act} {Q : Exit → Act → World → Prop} (hgd : o.guard = none) (ty : TypeId) (x y : Operand) (ho : o.op = .store ty x y)
    {vs : List Value} (hx : a.eval x = .pointer (some ⟨g, 0, none⟩)) (hy : a.eval y = .agg vs.toArray) (hb : Blk w g t cs) {n : Nat} (hi : (P.info? ty).map (·.size) = some n) (hn : vs.length = n) (hfit : cs.length = n) (h1 : ∀ u ∈ vs, u.oneCell' = true)
    (h : ∀ w', Blk w' g t vs → w.grownBy w' (some g) → wpList P ops Q rest (a.put o.dst undef) w') : wpList P ops Q (o :: rest) a w :=
  wpList_put hgd ty x y ho hx hy hb rfl (by rw [hn]; exact hi) (by omega) h1 fun w' h2 h3 => h w' (by rwa [lay_all _ _ (by omega)] at h2) h3

/-- A result that lies in a block. -/
theorem results_blk {fn : Func} {p : Tmp} {ty : TypeId} (h : fn.results = #[.cell p ty]) (tmps : Array Value) {d : TypeDesc} (hp : tmps.getD p undef = .pointer (some ⟨g, 0, none⟩)) (hb : Blk w g t cs)
    (hu : P.underlying ty = some d) (hd : (match d with | .struct _ | .array _ _ => true | _ => false) = true) (hi : (P.info? ty).map (·.size) = some cs.length) : (results fn tmps).run P w = .ok (.agg cs.toArray) w :=
  results_cell_row h tmps w g t cs.toArray (0, 0) d hp hb hu hd (by simpa using hi)
theorem exec_put {ty : TypeId} {off : Nat} {v : Value} {vs : List Value} {o : Oper} {a : Act} (x y : Operand) (ho : o.op = .store ty x y) (hx : a.eval x = .pointer (some ⟨g, off, none⟩)) (hy : a.eval y = v)
    (hb : Blk w g t cs) (hv : v.cells = vs.toArray) (hi : (P.info? ty).map (·.size) = some vs.length) (hfit : off + vs.length ≤ cs.length) (h1 : ∀ u ∈ vs, u.oneCell' = true) :
    ∃ w', (execOp a.eval o).run P w = .ok .skip w' ∧ Blk w' g t (lay cs off vs) ∧ w.grownBy w' (some g) := by
  refine ⟨_, ?_, setRow_heap w g _ _ t _ hb, ⟨rfl, rfl, rfl, by simp [World.setRow], fun k _ hk => setRow_other w g k _ (fun e => hk (by rw [e]))⟩⟩
  unfold execOp
  simp only [ho, hx, hy, Sem.run_bind, run_store_at (P := P) hb hv hi hfit h1, Result.andThen_ok, Sem.run_pure]
/-- A store of the tail of a statement whose order is open. -/
theorem wpStores_put {ops : Array Oper} {C : World → Prop} {K : Act → World → Prop} {i : Nat} {rest : List Nat} {a : Act} {o : Oper} (hoi : ops[i]? = some o) (hd : o.dst = none) (hgd : o.guard = none) (ty : TypeId) (x y : Operand) (ho : o.op = .store ty x y)
    {off : Nat} {v : Value} (hx : a.eval x = .pointer (some ⟨g, off, none⟩)) (hy : a.eval y = v) (hb : Blk w g t cs) {vs : List Value} (hv : v.cells = vs.toArray) (hi : (P.info? ty).map (·.size) = some vs.length) (hfit : off + vs.length ≤ cs.length) (h1 : ∀ u ∈ vs, u.oneCell' = true)
    (h : ∀ w', Blk w' g t (lay cs off vs) → w.grownBy w' (some g) → C w' ∧ wpStores P ops C K rest a w') : wpStores P ops C K (i :: rest) a w := by
  obtain ⟨w', h2, h3, h4⟩ := exec_put (P := P) (a := a) x y ho hx hy hb hv hi hfit h1
  exact wpStores_cons hoi hd hgd h2 (h w' h3 h4).1 (h w' h3 h4).2
/-- The builtin copy, of all of a source into a block that is known whole, in the tail of a statement whose order is open. -/
theorem wpStores_copy {ops : Array Oper} {C : World → Prop} {K : Act → World → Prop} {i : Nat} {rest : List Nat} {a : Act} {o : Oper} (hoi : ops[i]? = some o) (hgd : o.guard = none) (x y : Operand) (dT sT elem : TypeId)
    (ho : o.op = .call { callee := .builtin .copy, args := #[x, y], argTypes := #[dT, sT] }) (hu : P.underlying dT = some (.slice elem)) (hsz : (P.info? elem).map (·.size) = some 1)
    {off dLen dCap sLen sCap : Nat} {A : Option Addr} (hx : a.eval x = .slice (some ⟨g, off, none⟩) dLen dCap) (hy : a.eval y = .slice A sLen sCap) {news : List Value} (hr : Rd w A news) (h0 : 0 < news.length) (hn : news.length = sLen) (hle : sLen ≤ dLen)
    (hb : Blk w g t cs) (hfit : off + news.length ≤ cs.length) (h1 : ∀ u ∈ news, u.oneCell' = true)
    (h : ∀ w', Blk w' g t (lay cs off news) → w.grownBy w' (some g) → C w' ∧ wpStores P ops C K rest (a.put o.dst (goInt news.length)) w') : wpStores P ops C K (i :: rest) a w := by
  obtain ⟨b, q, hA, _⟩ := hr.cell h0
  subst hA
  have hrun := run_copy_row (P := P) w dT sT o.type elem g off dLen dCap ⟨b, q, none⟩ sLen sCap cs.toArray t news hu hsz hb (by rw [hn]; exact (Nat.min_eq_left hle).symm) (hr.cells _ rfl) (by simpa using hfit) h1
  have hw := h _ (setRow_heap w g _ _ t _ hb) ⟨rfl, rfl, rfl, by simp [World.setRow], fun k _ hk => setRow_other w g k _ (fun e => hk (by rw [e]))⟩
  refine wpStores_turn hoi hgd (v := goInt news.length) (w' := w.setRow g (lay cs off news).toArray) ?_ hw.1 hw.2
  unfold execOp
  simp only [ho, resolve, invoke, builtin, Sem.run_bind, Sem.run_pure, Result.andThen_ok, List.map_toArray, List.map_cons, List.map_nil, hx, hy, hrun]
  simp [lay]
end

end Go.Proofs.Ytbdnoiaglighhaa
