/- The walk of package disk's note. No statement is proved here. -/
import Derived.Test.YtbdnoiaglighhaaDevK
import Derived.Test.YtbdnoiaglighhaaMixU
namespace Go.Proofs.Ytbdnoiaglighhaa
set_option linter.unusedVariables false
set_option linter.unusedSimpArgs false
open Go.RowKit Go.Maps

section
variable {P : Program} {w : World}
theorem run_copyAt (ty : TypeId) (dT sT elem : TypeId) (hu : P.underlying dT = some (.slice elem)) (hsz : (P.info? elem).map (·.size) = some 1)
    {g off dLen dCap sLen sCap : Nat} {t : TypeId} {cs : List Value} {A : Option Addr} {l : List UInt8} (hr : Rd w A (bs l)) (hl : l.length = sLen) (hb : Blk w g t cs) (hfit : off + (l.take dLen).length ≤ cs.length) :
    ∃ w', (Builtin.copy_ #[dT, sT] ty #[.slice (some ⟨g, off, none⟩) dLen dCap, .slice A sLen sCap]).run P w = .ok (goInt (l.take dLen).length) w' ∧ Blk w' g t (lay cs off (bs (l.take dLen))) ∧ w.grownBy w' (some g) := by
  by_cases h0 : (l.take dLen).length = 0
  · have hnil : l.take dLen = [] := List.eq_nil_of_length_eq_zero h0
    refine ⟨w, ?_, by rw [hnil]; exact (lay_nil cs off).symm ▸ hb, ⟨rfl, rfl, rfl, Nat.le_refl _, fun _ _ _ => rfl⟩⟩
    rw [h0]
    exact run_copy_none (P := P) w dT sT ty elem _ _ dLen dCap sLen sCap hu hsz (by
      rw [List.length_take] at h0
      subst hl
      show min l.length dLen = 0
      omega)
  · have hr' : Rd w A (bs (l.take dLen)) := by rw [bs, List.map_take]; exact hr.take dLen
    obtain ⟨b, q, hA, _⟩ := hr'.cell (k := 0) (by rw [bs_length]; omega)
    subst hA
    have hn : (bs (l.take dLen)).length = Nat.min sLen dLen := by
      rw [bs_length, List.length_take, hl]
      show min dLen sLen = min sLen dLen
      omega
    refine ⟨_, ?_, setRow_heap w g _ _ t _ hb, ⟨rfl, rfl, rfl, by simp [World.setRow], fun k _ hk => setRow_other w g k _ (fun e => hk (by rw [e]))⟩⟩
    have hrun := run_copy_row (P := P) w dT sT ty elem g off dLen dCap ⟨b, q, none⟩ sLen sCap cs.toArray t (bs (l.take dLen)) hu hsz hb hn (hr'.cells _ rfl) (by rw [bs_length]; simpa using hfit) (bs_one _)
    rw [bs_length] at hrun
    rw [hrun]
    simp [lay]
theorem wpStores_copyAt {ops : Array Oper} {C : World → Prop} {K : Act → World → Prop} {i : Nat} {rest : List Nat} {a : Act} {o : Oper} (hoi : ops[i]? = some o) (hgd : o.guard = none) (x y : Operand) (dT sT elem : TypeId)
    (ho : o.op = .call { callee := .builtin .copy, args := #[x, y], argTypes := #[dT, sT] }) (hu : P.underlying dT = some (.slice elem)) (hsz : (P.info? elem).map (·.size) = some 1)
    {g off dLen dCap sLen sCap : Nat} {t : TypeId} {cs : List Value} {A : Option Addr} {l : List UInt8} (hx : a.eval x = .slice (some ⟨g, off, none⟩) dLen dCap) (hy : a.eval y = .slice A sLen sCap) (hr : Rd w A (bs l)) (hl : l.length = sLen)
    (hb : Blk w g t cs) (hfit : off + (l.take dLen).length ≤ cs.length)
    (h : ∀ w', Blk w' g t (lay cs off (bs (l.take dLen))) → w.grownBy w' (some g) → C w' ∧ wpStores P ops C K rest (a.put o.dst (goInt (l.take dLen).length)) w') : wpStores P ops C K (i :: rest) a w := by
  obtain ⟨w', hrun, h1, h2⟩ := run_copyAt (P := P) o.type dT sT elem hu hsz (dCap := dCap) (sCap := sCap) hr hl hb hfit
  refine wpStores_turn hoi hgd (v := goInt (l.take dLen).length) (w' := w') ?_ (h w' h1 h2).1 (h w' h1 h2).2
  unfold execOp
  simp only [ho, resolve, invoke, builtin, Sem.run_bind, Sem.run_pure, Result.andThen_ok, List.map_toArray, List.map_cons, List.map_nil, hx, hy, hrun]
end
theorem exec_blk {P : Program} {w : World} {o : Oper} {a : Act} {g : Nat} {t : TypeId} {cs : List Value} (ty : TypeId) (x : Operand) (ho : o.op = .load ty x) {d : TypeDesc} (hx : a.eval x = .pointer (some ⟨g, 0, none⟩)) (hb : Blk w g t cs) (hu : P.underlying ty = some d)
    (hd : (match d with | .struct _ | .array _ _ => true | _ => false) = true) {n : Nat} (hi : (P.info? ty).map (·.size) = some n) (hn : cs.length = n) : (execOp a.eval o).run P w = .ok (.value (.agg cs.toArray)) w := by
  have hrun := run_loadVar_at (P := P) (off := 0) hb hu hd hi (by omega)
  rw [cut_all _ _ hn] at hrun
  unfold execOp
  simp only [ho, hx, Instr.loadAt, Instr.sureAddr, Sem.run_bind, Sem.run_pure, Result.andThen_ok, hrun]
theorem info50 : (Try.prog.info? 50).map (·.size) = some 15 := by kernel_rfl
theorem info46 : (Try.prog.info? 46).map (·.size) = some 1 := by kernel_rfl
theorem S46 : SliceOf Try.prog 46 50 (.agg #[.int .i64 0, .int .i64 0, .int .u8 0, .int .u8 0, .int .u8 0, .int .u8 0, .int .u8 0, .int .u8 0, .int .u8 0, .int .u8 0, .int .u8 0, .int .u8 0, .int .u8 0, .int .u8 0, .slice none 0 0]) 15 56 := ⟨by kernel_rfl, by kernel_rfl, rfl, by decide⟩
/-- An event's cells, its head's bytes still noughts. -/
def ev0 (k p : Int) (bv : Value) : List Value := [.int .i64 k, .int .i64 p, .int .u8 0, .int .u8 0, .int .u8 0, .int .u8 0, .int .u8 0, .int .u8 0, .int .u8 0, .int .u8 0, .int .u8 0, .int .u8 0, .int .u8 0, .int .u8 0, bv]
/-- An event's cells. -/
def evC (k p : Int) (h : List UInt8) (bv : Value) : List Value := .int .i64 k :: .int .i64 p :: (bs h ++ [bv])
theorem ev0_lay (k p : Int) (bv : Value) (b : List UInt8) (m : Nat) (hm : m = min b.length 12) : lay (ev0 k p bv) 2 (bs ((b.take m).take 12)) = evC k p (fit 12 b) bv := by
  have e : (b.take m).take 12 = b.take 12 := by
    rw [List.take_take]
    rcases Nat.lt_or_ge b.length 12 with h | h
    · rw [List.take_of_length_le (by omega), List.take_of_length_le (by omega)]
    · rw [show min 12 m = 12 by omega]
  rw [e]
  have h0 : ev0 k p bv = [.int .i64 k, .int .i64 p] ++ (bs (List.replicate 12 0) ++ [bv]) := rfl
  have hl : (b.take 12).length ≤ 12 := by simp; omega
  have hf : fit 12 b = b.take 12 ++ List.replicate (12 - (b.take 12).length) 0 := by unfold fit; congr 2; simp; omega
  rw [hf]
  generalize b.take 12 = t at *
  unfold lay evC
  have hp2 : ([.int .i64 k, .int .i64 p] : List Value).length = 2 := rfl
  rw [h0, List.take_left' hp2, bs_length]
  have h2 : (([.int .i64 k, .int .i64 p] : List Value) ++ (bs (List.replicate 12 0) ++ [bv])).drop (2 + t.length) = bs (List.replicate (12 - t.length) 0) ++ [bv] := by
    rw [← List.drop_drop, List.drop_left' hp2, List.drop_append_of_le_length (by simp; omega), bs, ← List.map_drop, List.drop_replicate]
  rw [h2, bs_append]
  simp
theorem list12 (l : List UInt8) (h : l.length = 12) : ∃ h0 h1 h2 h3 h4 h5 h6 h7 h8 h9 h10 h11 : UInt8, l = [h0, h1, h2, h3, h4, h5, h6, h7, h8, h9, h10, h11] := by
  match l, h with
  | [a, b, c, d, e, f, g, h, i, j, k, l], _ => exact ⟨a, b, c, d, e, f, g, h, i, j, k, l, rfl⟩
theorem wpTr_put {P : Program} {w : World} {g : Nat} {t : TypeId} {cs : List Value} {ops : Array Oper} {C : World → Prop} {K : Act → World → Prop} {i : Nat} {tr : Tr} {a : Act} {o : Oper} (hoi : ops[i]? = some o) (hd : o.dst = none) (hgd : o.guard = none) (ty : TypeId) (x y : Operand) (ho : o.op = .store ty x y)
    {off : Nat} {v : Value} (hx : a.eval x = .pointer (some ⟨g, off, none⟩)) (hy : a.eval y = v) (hb : Blk w g t cs) {vs : List Value} (hv : v.cells = vs.toArray) (hi : (P.info? ty).map (·.size) = some vs.length) (hfit : off + vs.length ≤ cs.length) (h1 : ∀ u ∈ vs, u.oneCell' = true)
    (h : ∀ w', Blk w' g t (lay cs off vs) → w.grownBy w' (some g) → C w' ∧ wpTr P ops C K tr a w') : wpTr P ops C K (.go i tr) a w := by
  obtain ⟨w', h2, h3, h4⟩ := exec_put (P := P) (a := a) x y ho hx hy hb hv hi hfit h1
  exact wpTr_skip hoi hd hgd h2 (h w' h3 h4).1 (h w' h3 h4).2
/-- What is noted: from the walk's facts to the device. -/
theorem noted {w w2 w3 w4 : World} {F : Nat → Prop} {db mS mN : Nat} {S : Dev} {vL vT v' : Value} {kind place : Int} {b : List UInt8} {body : Option (List UInt8)} {bv : Value} {cs : List (List Value)}
    (hl : Lies F w) (ho : F db) (hk : S.Ok) (hb : Blk w db 102 (devCells S mS mN vL vT)) (hp : Parts w F S mS mN vL vT) (hbody : match body with | none => bv = .slice none 0 0 | some l => Dat w F bv l)
    (h2 : Below w.heap.size w w2) (ha : All2 (EvIs w F) S.trace cs) (h3 : w3.ownsRow 0 50 15 v' (S.trace.length + 1) (cs.flatten ++ evC kind place (fit 12 b) bv)) (hg3 : w2.grownBy w3 vT.ownBlock) (hloc : v'.ownBlock = vT.ownBlock ∨ v'.ownBlock = some w2.heap.size)
    (h4 : Blk w4 db 102 ((devCells S mS mN vL vT).set 7 v')) (hg4 : w3.grownBy w4 (some db)) : ∃ F', Calls1 db (S.note kind place b body) F w w4 F' := by
  have hgT : ∀ g, vT.ownBlock = some g → F g ∧ ∃ cur, w.heap[g]? = some (.cells cur 50 (0, 0)) := fun g hg => by
    refine ⟨hp.trace.2 g hg, ?_⟩
    obtain ⟨⟨cs', _, ho'⟩, _⟩ := hp.trace
    rcases ho'.2 with ⟨hv, _⟩ | ⟨g', cap, cur, hv, _, hh, _⟩
    · rw [hv] at hg; cases hg
    · rw [hv] at hg; cases hg; exact ⟨cur, hh⟩
  have hdbT : vT.ownBlock ≠ some db := fun e => by
    obtain ⟨_, cur, hh⟩ := hgT db e
    unfold Blk at hb
    rw [hb] at hh
    injection hh with hh
    injection hh with _ h _
    cases h
  -- what has turned between w and w4
  have hturn : ∀ g, g < w.heap.size → g ≠ db → vT.ownBlock ≠ some g → w4.heap[g]? = w.heap[g]? := fun g hg hne hT =>
    (hg4.block g (by have := hg3.size; have := h2.size; omega) (fun e => hne (Option.some.inj e))).trans ((hg3.block g (by have := h2.size; omega) (fun e => hT e.symm)).trans (h2.block g hg))
  have hsz : w.heap.size ≤ w4.heap.size := Nat.le_trans h2.size (Nat.le_trans hg3.size hg4.size)
  let F' : Nat → Prop := fun g => F g ∨ v'.ownBlock = some g
  have hF' : ∀ g, F g → F' g := fun g hg => .inl hg
  -- the parts but the trace
  have h5 : ∀ {u : Value} {l : List UInt8}, Dat w F u l → Dat w4 F' u l := fun hd => by
    obtain ⟨g1, c1, cur, rfl, hF1, hh⟩ := hd.cells
    obtain ⟨g2, c2, he, ho2, hF2⟩ := hd
    injection he with he
    injection he with he
    injection he with he1
    subst he1
    refine ⟨_, _, rfl, own_same ho2 (fun k hk => ?_), .inl hF2⟩
    cases hk
    refine hturn _ (hl _ hF1) (fun e => ?_) (fun e => ?_)
    · subst e
      unfold Blk at hb
      rw [hb] at hh
      injection hh with hh
      injection hh with _ h _
      cases h
    · obtain ⟨_, cur', hh'⟩ := hgT _ e
      rw [hh'] at hh
      injection hh with hh
      injection hh with _ h _
      cases h
  have hmap : ∀ {m : Nat} {f : Int → Option (List UInt8)}, MapIs w F m S.blocks S.size f → MapIs w4 F' m S.blocks S.size f := fun {m f} hm => by
    obtain ⟨hF, D, hom, hkk, hf⟩ := hm
    refine ⟨.inl hF, D, ownsMap_same hom (hturn m (hl m hF) (fun e => ?_) (fun e => ?_)), hkk, fun x h0 h1 => ?_⟩
    · subst e; exact NoRow.map hom 102 _ hb
    · obtain ⟨_, cur, hh⟩ := hgT _ e; exact NoRow.map hom 50 _ hh
    · have := hf x h0 h1
      cases hx : f x with
      | none => simp only [hx] at this ⊢; exact this
      | some l =>
        simp only [hx] at this ⊢
        obtain ⟨h1, h2, v, h3, h4⟩ := this
        exact ⟨h1, h2, v, h5 h3, h4⟩
  have hdb4 : v'.ownBlock ≠ some db := fun e => by
    rcases hloc with h | h
    · exact hdbT (h ▸ e)
    · rw [h] at e; have := Option.some.inj e; have := hl db ho; have := h2.size; omega
  refine ⟨F', ⟨?_, .inl ho, ⟨hk.blocks, hk.size, hk.pos, hk.after⟩, mS, mN, vL, v', h4, ?_⟩, hF', fun g hg => ?_, ?_⟩
  · intro g hg
    rcases hg with hg | hg
    · have := hl g hg; omega
    · have := (h3.lt g hg).2
      have := hg4.size
      omega
  · refine ⟨hmap hp.stable, hmap hp.now, ?_, ?_, hp.apart⟩
    · obtain ⟨⟨ls, hall, hol⟩, hLF⟩ := hp.loose
      refine ⟨⟨ls, hall.imp (fun p c hc => ?_), own_same hol (fun g hg => ?_)⟩, fun g hg => .inl (hLF g hg)⟩
      · obtain ⟨a1, a2, a3, u, a4, a5⟩ := hc
        exact ⟨a1, a2, a3, u, a4, h5 a5⟩
      · have hh : ∃ cur, w.heap[g]? = some (.cells cur 105 (0, 0)) := by
          rcases hol.2 with ⟨hv, _⟩ | ⟨g', cap, cur, hv, _, hh, _⟩
          · rw [hv] at hg; cases hg
          · rw [hv] at hg; cases hg; exact ⟨cur, hh⟩
        obtain ⟨cur, hh⟩ := hh
        refine hturn g (hl g (hLF g hg)) (fun e => ?_) (fun e => ?_)
        · subst e
          unfold Blk at hb
          rw [hb] at hh
          injection hh with hh
          injection hh with _ h _
          cases h
        · obtain ⟨_, cur', hh'⟩ := hgT _ e
          rw [hh'] at hh
          injection hh with hh
          injection hh with _ h _
          cases h
    · refine ⟨⟨cs ++ [evC kind place (fit 12 b) bv], All2.snoc (ha.imp fun e c hc => ?_) ⟨fit_length _ _, bv, rfl, ?_⟩, ?_⟩, fun g hg => .inr hg⟩
      · obtain ⟨a1, u, a2, a3⟩ := hc
        refine ⟨a1, u, a2, ?_⟩
        cases hx : e.body with
        | none => simpa [hx] using a3
        | some l => simp only [hx] at a3 ⊢; exact h5 a3
      · cases body with
        | none => exact hbody
        | some l => exact h5 hbody
      · have e : (cs ++ [evC kind place (fit 12 b) bv]).flatten = cs.flatten ++ evC kind place (fit 12 b) bv := by simp
        rw [e]
        have hlen : (S.note kind place b body).trace.length = S.trace.length + 1 := by simp [Dev.note]
        rw [hlen]
        exact own_same h3 (fun g hg => hg4.block g (h3.lt g hg).2 (fun e => hdb4 (hg.trans e)))
  · rcases hg with hg | hg
    · exact .inl hg
    · rcases hloc with h | h
      · exact .inl (hgT g (h ▸ hg)).1
      · rw [h] at hg; have := Option.some.inj hg; have := h2.size; exact .inr (by omega)
  · exact ⟨hg4.os.trans (hg3.os.trans h2.os), hg4.tape.trans (hg3.tape.trans h2.tape), hg4.output.trans (hg3.output.trans h2.output), hsz, fun g hg hn => hturn g hg (fun e => hn (e ▸ ho)) (fun e => hn (hgT g e).1)⟩

set_option maxHeartbeats 1000000 in
set_option maxRecDepth 100000 in
theorem note_calls {w : World} {F : Nat → Prop} {db : Nat} {S : Dev} (hD : DiskAt w db S F) (kind place : Int) (A : Option Addr) (n c : Nat) (b : List UInt8) (hb : b.length = n) (hnc : n ≤ c) (hr : Rd w A (bs b)) (body : Option (List UInt8)) (bv : Value)
    (hbody : match body with | none => bv = .slice none 0 0 | some l => Dat w F bv l) (htr : S.trace.length ≤ 1000000) :
    Calls Try.prog 75 #[.pointer (some ⟨db, 0, none⟩), .int .i64 kind, .int .i64 place, .slice A n c, bv] w fun e w' => e = .returned (.tuple #[]) ∧ ∃ F', Calls1 db (S.note kind place b body) F w w' F' := by
  obtain ⟨hl, ho, hk, mS, mN, vL, vT, hblk, hp⟩ := hD
  obtain ⟨A2, n2, c2, hbv⟩ : ∃ A2 n2 c2, bv = .slice A2 n2 c2 := by
    cases body with
    | none => exact ⟨_, _, _, hbody⟩
    | some l => obtain ⟨g, c, h, _⟩ := hbody; exact ⟨_, _, _, h⟩
  have HBV := Lib.hid hbv
  have HBO := Lib.hid hbody
  have HB := Lib.hid hblk
  have HP := Lib.hid hp
  have HR := Lib.hid hr
  have HN := Lib.hid hb
  clear hbody hblk hp hr hb
  subst hbv
  go_enter Try.func75, Try.ntmps75
  go_wp2_with fail
  have hall := arr48.all w.heap.size 2
  have hEB := Lib.hid (Blk.new w 50 (ev0 kind place (.slice A2 n2 c2)))
  have hEO := Lib.hid ((Below.refl w.heap.size w).alloc (Nat.le_refl _) (.cells (ev0 kind place (.slice A2 n2 c2)).toArray 50))
  obtain ⟨m, hmin, hmn, hmc, hm12⟩ : ∃ m : Nat, (if (12 : Int) < (n : Int) then (12 : Int) else (n : Int)) = (m : Int) ∧ (m : Int) ≤ (n : Int) ∧ (m : Int) ≤ (c : Int) ∧ m = min n 12 := by
    by_cases h : 12 < n
    · exact ⟨12, by rw [if_pos (by omega)]; rfl, by omega, by omega, by omega⟩
    · exact ⟨n, by rw [if_neg (by omega)], by omega, by omega, by omega⟩
  have H12 := Lib.hid hm12
  have hm0 : (0 : Int) ≤ (m : Int) := by omega
  clear hm12
  refine wp_region_mix [(true, 0), (true, 1), (true, 2), (true, 3), (true, 4), (true, 5), (true, 6)] [7] (by kernel_rfl) (by kernel_rfl) (fun _ => True) trivial ?_
  iterate 7
    refine wpHead_early rfl (fun K hK => ?_)
    go_simp
    refine hK _ ?_
    clear hK K
  have hrm : Rd (w.alloc (.cells (ev0 kind place (.slice A2 n2 c2)).toArray 50)).drew A (bs (b.take m)) := rd_to (HR.out.below hEO.out) m
  refine wpStores_copyAt (g := w.heap.size) (off := 2) (cs := ev0 kind place (.slice A2 n2 c2)) (t := 50) (l := b.take m) rfl rfl (.tmp 16) (.tmp 21) 41 41 5 rfl Try.underlying41 info5 rfl rfl hrm (by rw [List.length_take, HN.out, H12.out]; omega) hEB.out (by simp only [List.length_take, ev0, List.length_cons, List.length_nil]; omega) ?_
  intro w1 hb1 hg1
  refine ⟨trivial, ?_⟩
  simp only [Act.put, List.getElem_toArray, List.getElem_cons_succ, List.getElem_cons_zero, List.setIfInBounds_toArray, List.set_cons_zero, List.set_cons_succ]
  unfold wpStores
  rw [ev0_lay kind place _ b m (by rw [HN.out]; exact H12.out)] at hb1
  obtain ⟨h0, h1, h2, h3, h4, h5, h6, h7, h8, h9, h10, h11, hfit⟩ := list12 (fit 12 b) (fit_length _ _)
  rw [hfit] at hb1
  have HFIT := Lib.hid hfit
  have hw1 : Below w.heap.size w w1 := Below.grown (row := some w.heap.size) hEO.out.drew hg1 (by show w.heap.size ≤ (w.alloc (.cells (ev0 kind place (.slice A2 n2 c2)).toArray 50)).heap.size; simp) (fun j hj => by cases hj; exact Nat.le_refl _)
  have HE1 := Lib.hid (show Blk w1 w.heap.size 50 [.int .i64 kind, .int .i64 place, byt h0, byt h1, byt h2, byt h3, byt h4, byt h5, byt h6, byt h7, byt h8, byt h9, byt h10, byt h11, .slice A2 n2 c2] from hb1)
  have HW1 := Lib.hid hw1
  have HBD := Lib.hid (HB.out.below hw1 HB.out.lt)
  obtain ⟨⟨cs, hall2, hrowT⟩, hTF⟩ := HP.out.trace
  have HA2 := Lib.hid hall2
  obtain ⟨AT, cT, hvT⟩ := own_slice hrowT
  obtain ⟨nT, hnT⟩ : ∃ nT, nT = S.trace.length := ⟨_, rfl⟩
  have hdb1 : db < w1.heap.size := HBD.out.lt
  subst hvT
  have hgT1 : ∀ g, (Value.slice AT S.trace.length cT).ownBlock = some g → g < w1.heap.size := fun g hg => by have := hl g (hTF g hg); have := HW1.out.size; omega
  have HT := Lib.hid (own_same hrowT (fun g hg => HW1.out.block g (hl g (hTF g hg))))
  have hrowk : ∀ g, (Value.slice AT S.trace.length cT).ownBlock = some g → ∃ cur, w.heap[g]? = some (.cells cur 50 (0, 0)) := fun g hg => by
    rcases hrowT.2 with ⟨hv, _⟩ | ⟨g', cap, cur, hv, _, hh, _⟩
    · rw [hv] at hg; cases hg
    · rw [hv] at hg; cases hg; exact ⟨cur, hh⟩
  have hneE : some w.heap.size ≠ (Value.slice AT S.trace.length cT).ownBlock := fun e => by have := hl _ (hTF _ e.symm); omega
  have hneD : some db ≠ (Value.slice AT S.trace.length cT).ownBlock := fun e => by
    obtain ⟨cur, hh⟩ := hrowk db e.symm
    have hbb := HB.out
    unfold Blk at hbb
    rw [hbb] at hh
    injection hh with hh
    injection hh with _ h _
    cases h
  have hneE2 : some w.heap.size ≠ some db := fun e => by have := Option.some.inj e; have := hl db ho; omega
  have fin3 : ∀ (w2 w3 w4 : World) (A3 : Option Addr) (c3 : Nat), Below w1.heap.size w1 w2 → w3.ownsRow 0 50 15 (.slice A3 (S.trace.length + 1) c3) (S.trace.length + 1) (cs.flatten ++ [.int .i64 kind, .int .i64 place, byt h0, byt h1, byt h2, byt h3, byt h4, byt h5, byt h6, byt h7, byt h8, byt h9, byt h10, byt h11, .slice A2 n2 c2]) → w2.grownBy w3 (Value.slice AT S.trace.length cT).ownBlock →
      ((Value.slice A3 (S.trace.length + 1) c3).ownBlock = (Value.slice AT S.trace.length cT).ownBlock ∨ (Value.slice A3 (S.trace.length + 1) c3).ownBlock = some w2.heap.size) → Blk w4 db 102 ((devCells S mS mN vL (.slice AT S.trace.length cT)).set 7 (.slice A3 (S.trace.length + 1) c3)) → w3.grownBy w4 (some db) →
      ∃ F', Calls1 db (S.note kind place b body) F w w4 F' := fun w2 w3 w4 A3 c3 q1 q2 q3 q4 q5 q6 => by
    refine noted (bv := .slice A2 n2 c2) (w2 := w2) (w3 := w3) hl ho hk HB.out HP.out HBO.out (HW1.out.trans (q1.mono HW1.out.size)) HA2.out ?_ q3 q4 q5 q6
    rw [HFIT.out]
    exact q2
  have q0 : w1.cell? ⟨db, 7, none⟩ = some (.slice AT S.trace.length cT) := HBD.out.dev.2.2.2.2.2.2.2
  clear hall2 hrowT hnT hfit hb1 hg1 hw1 hrowk hmin hmn hmc hm0 hrm hall hEB hEO
  try simp only [Act.put]
  go_wp2_with fail
  refine wp_region_mixT [(false, 0), (false, 1), (false, 2), (false, 3), (false, 5)] [4, 6, 7, 8, 9, 10] [] (.fork (.go 4 (.go 6 (.go 7 (.go 8 (.go 9 (.go 10 .stop)))))) (.go 6 (.go 4 (.go 7 (.go 8 (.go 9 (.go 10 .stop))))))) (by kernel_rfl) (by kernel_rfl)
    (fun w' => Blk w' w.heap.size 50 [.int .i64 kind, .int .i64 place, byt h0, byt h1, byt h2, byt h3, byt h4, byt h5, byt h6, byt h7, byt h8, byt h9, byt h10, byt h11, .slice A2 n2 c2]) (fun _ w' => ∃ F', Calls1 db (S.note kind place b body) F w w' F') HE1.out ?_
  refine wpHead_late rfl (fun K hK => ⟨.pointer (some ⟨db, 0, none⟩), fun w' hC => ⟨rfl, rfl⟩, hK _ ?_⟩)
  clear hK K
  simp only [Act.put, List.getElem_toArray, List.getElem_cons_succ, List.getElem_cons_zero, List.setIfInBounds_toArray, List.set_cons_zero, List.set_cons_succ]
  refine wpHead_late rfl (fun K hK => ⟨.pointer (some ⟨db, 0, none⟩), fun w' hC => ⟨rfl, rfl⟩, hK _ ?_⟩)
  clear hK K
  simp only [Act.put, List.getElem_toArray, List.getElem_cons_succ, List.getElem_cons_zero, List.setIfInBounds_toArray, List.set_cons_zero, List.set_cons_succ]
  refine wpHead_late rfl (fun K hK => ⟨.pointer (some ⟨db, 0, none⟩), fun w' hC => ⟨rfl, by go_simp⟩, hK _ ?_⟩)
  clear hK K
  simp only [Act.put, List.getElem_toArray, List.getElem_cons_succ, List.getElem_cons_zero, List.setIfInBounds_toArray, List.set_cons_zero, List.set_cons_succ]
  refine wpHead_late rfl (fun K hK => ⟨.pointer (some ⟨db, 7, none⟩), fun w' hC => ⟨rfl, by go_simp⟩, hK _ ?_⟩)
  clear hK K
  simp only [Act.put, List.getElem_toArray, List.getElem_cons_succ, List.getElem_cons_zero, List.setIfInBounds_toArray, List.set_cons_zero, List.set_cons_succ]
  refine wpHead_late rfl (fun K hK => ⟨.agg #[.int .i64 kind, .int .i64 place, byt h0, byt h1, byt h2, byt h3, byt h4, byt h5, byt h6, byt h7, byt h8, byt h9, byt h10, byt h11, .slice A2 n2 c2], fun w' hC => ⟨rfl, exec_blk 50 (.tmp 10) rfl rfl hC Try.underlying50 rfl info50 rfl⟩, hK _ ?_⟩)
  clear hK K
  simp only [Act.put, List.getElem_toArray, List.getElem_cons_succ, List.getElem_cons_zero, List.setIfInBounds_toArray, List.set_cons_zero, List.set_cons_succ]
  unfold wpHead wpMeet
  refine ⟨⟨?_, ?_⟩, ?_⟩
  · have bb := (Below.refl w1.heap.size w1).drew
    have q7 : (w1.drew).cell? ⟨db, 7, none⟩ = some (.slice AT S.trace.length cT) := (HBD.out.below bb hdb1).dev.2.2.2.2.2.2.2
    refine wpTr_turn (v := .slice AT S.trace.length cT) (w' := w1.drew) rfl rfl (by go_simp) (HE1.out.below bb HE1.out.lt) ?_
    simp only [Act.put, List.getElem_toArray, List.getElem_cons_succ, List.getElem_cons_zero, List.setIfInBounds_toArray, List.set_cons_zero, List.set_cons_succ]
    refine wpTr_turn (v := .slice (some ⟨w1.heap.size, 0, none⟩) 1 1) (w' := w1.drew.alloc (.cells #[.int .i64 kind, .int .i64 place, byt h0, byt h1, byt h2, byt h3, byt h4, byt h5, byt h6, byt h7, byt h8, byt h9, byt h10, byt h11, .slice A2 n2 c2] 50)) rfl rfl (by go_simp) (HE1.out.below (bb.alloc (by simp) _) HE1.out.lt) ?_
    simp only [Act.put, List.getElem_toArray, List.getElem_cons_succ, List.getElem_cons_zero, List.setIfInBounds_toArray, List.set_cons_zero, List.set_cons_succ]
    replace bb := bb.alloc (by simp) (.cells #[.int .i64 kind, .int .i64 place, byt h0, byt h1, byt h2, byt h3, byt h4, byt h5, byt h6, byt h7, byt h8, byt h9, byt h10, byt h11, .slice A2 n2 c2] 50)
    have hrn : Rd (w1.drew.alloc (.cells #[.int .i64 kind, .int .i64 place, byt h0, byt h1, byt h2, byt h3, byt h4, byt h5, byt h6, byt h7, byt h8, byt h9, byt h10, byt h11, .slice A2 n2 c2] 50)) (some ⟨w1.heap.size, 0, none⟩) [.int .i64 kind, .int .i64 place, byt h0, byt h1, byt h2, byt h3, byt h4, byt h5, byt h6, byt h7, byt h8, byt h9, byt h10, byt h11, .slice A2 n2 c2] := (Blk.new w1.drew 50 [.int .i64 kind, .int .i64 place, byt h0, byt h1, byt h2, byt h3, byt h4, byt h5, byt h6, byt h7, byt h8, byt h9, byt h10, byt h11, .slice A2 n2 c2]).rdAll
    have hrow := own_same HT.out (fun g hg => bb.block g (hgT1 g hg))
    refine wpTr_appAny S46 rfl rfl (.tmp 27) (.tmp 29) rfl rfl rfl hrow hrn rfl (by simp [Value.oneCell', byt]) (by omega) (by unfold maxLen; omega) (by omega) ?_
    intro v3 w3 own3 hg3 hl3
    have hsz3 := hg3.size
    have he3 := (HE1.out.below bb HE1.out.lt).grown hg3 hneE
    refine ⟨he3, ?_⟩
    simp only [Act.put, List.getElem_toArray, List.getElem_cons_succ, List.getElem_cons_zero, List.setIfInBounds_toArray, List.set_cons_zero, List.set_cons_succ]
    have hd3 := ((HBD.out.below bb hdb1).grown hg3 hneD)
    refine wpTr_turn (v := .pointer (some ⟨db, 0, none⟩)) (w' := w3) rfl rfl (by go_simp) he3 ?_
    simp only [Act.put, List.getElem_toArray, List.getElem_cons_succ, List.getElem_cons_zero, List.setIfInBounds_toArray, List.set_cons_zero, List.set_cons_succ]
    refine wpTr_turn (v := .pointer (some ⟨db, 7, none⟩)) (w' := w3) rfl rfl (by go_simp) he3 ?_
    simp only [Act.put, List.getElem_toArray, List.getElem_cons_succ, List.getElem_cons_zero, List.setIfInBounds_toArray, List.set_cons_zero, List.set_cons_succ]
    obtain ⟨A3, c3, rfl⟩ := own_slice own3
    refine wpTr_put rfl rfl rfl 46 (.tmp 32) (.tmp 30) rfl rfl rfl hd3 (vs := [.slice A3 (S.trace.length + 1) c3]) rfl info46 (by simp [devCells]) (by simp [Value.oneCell']) ?_
    intro w4 hb4 hg4
    rw [lay_one _ _ _ (by simp [devCells])] at hb4
    refine ⟨he3.grown hg4 hneE2, ?_⟩
    unfold wpTr
    refine ⟨he3.grown hg4 hneE2, (fun | 4 => .slice AT S.trace.length cT | 6 => .slice (some ⟨w1.heap.size, 0, none⟩) 1 1 | 7 => .slice A3 (S.trace.length + 1) c3 | 8 => .pointer (some ⟨db, 0, none⟩) | 9 => .pointer (some ⟨db, 7, none⟩) | _ => undef), rfl, ?_⟩
    exact fin3 _ _ _ _ _ bb own3 hg3 hl3 hb4 hg4
  · have bb := (Below.refl w1.heap.size w1).drew
    refine wpTr_turn (v := .slice (some ⟨w1.heap.size, 0, none⟩) 1 1) (w' := w1.drew.alloc (.cells #[.int .i64 kind, .int .i64 place, byt h0, byt h1, byt h2, byt h3, byt h4, byt h5, byt h6, byt h7, byt h8, byt h9, byt h10, byt h11, .slice A2 n2 c2] 50)) rfl rfl (by go_simp) (HE1.out.below (bb.alloc (by simp) _) HE1.out.lt) ?_
    simp only [Act.put, List.getElem_toArray, List.getElem_cons_succ, List.getElem_cons_zero, List.setIfInBounds_toArray, List.set_cons_zero, List.set_cons_succ]
    have q7 : (w1.drew.alloc (.cells #[.int .i64 kind, .int .i64 place, byt h0, byt h1, byt h2, byt h3, byt h4, byt h5, byt h6, byt h7, byt h8, byt h9, byt h10, byt h11, .slice A2 n2 c2] 50)).cell? ⟨db, 7, none⟩ = some (.slice AT S.trace.length cT) := (HBD.out.below (bb.alloc (by simp) (.cells #[.int .i64 kind, .int .i64 place, byt h0, byt h1, byt h2, byt h3, byt h4, byt h5, byt h6, byt h7, byt h8, byt h9, byt h10, byt h11, .slice A2 n2 c2] 50)) hdb1).dev.2.2.2.2.2.2.2
    refine wpTr_turn (v := .slice AT S.trace.length cT) (w' := w1.drew.alloc (.cells #[.int .i64 kind, .int .i64 place, byt h0, byt h1, byt h2, byt h3, byt h4, byt h5, byt h6, byt h7, byt h8, byt h9, byt h10, byt h11, .slice A2 n2 c2] 50)) rfl rfl (by go_simp) (HE1.out.below (bb.alloc (by simp) (.cells #[.int .i64 kind, .int .i64 place, byt h0, byt h1, byt h2, byt h3, byt h4, byt h5, byt h6, byt h7, byt h8, byt h9, byt h10, byt h11, .slice A2 n2 c2] 50)) HE1.out.lt) ?_
    simp only [Act.put, List.getElem_toArray, List.getElem_cons_succ, List.getElem_cons_zero, List.setIfInBounds_toArray, List.set_cons_zero, List.set_cons_succ]
    replace bb := bb.alloc (by simp) (.cells #[.int .i64 kind, .int .i64 place, byt h0, byt h1, byt h2, byt h3, byt h4, byt h5, byt h6, byt h7, byt h8, byt h9, byt h10, byt h11, .slice A2 n2 c2] 50)
    have hrn : Rd (w1.drew.alloc (.cells #[.int .i64 kind, .int .i64 place, byt h0, byt h1, byt h2, byt h3, byt h4, byt h5, byt h6, byt h7, byt h8, byt h9, byt h10, byt h11, .slice A2 n2 c2] 50)) (some ⟨w1.heap.size, 0, none⟩) [.int .i64 kind, .int .i64 place, byt h0, byt h1, byt h2, byt h3, byt h4, byt h5, byt h6, byt h7, byt h8, byt h9, byt h10, byt h11, .slice A2 n2 c2] := (Blk.new w1.drew 50 [.int .i64 kind, .int .i64 place, byt h0, byt h1, byt h2, byt h3, byt h4, byt h5, byt h6, byt h7, byt h8, byt h9, byt h10, byt h11, .slice A2 n2 c2]).rdAll
    have hrow := own_same HT.out (fun g hg => bb.block g (hgT1 g hg))
    refine wpTr_appAny S46 rfl rfl (.tmp 27) (.tmp 29) rfl rfl rfl hrow hrn rfl (by simp [Value.oneCell', byt]) (by omega) (by unfold maxLen; omega) (by omega) ?_
    intro v3 w3 own3 hg3 hl3
    have hsz3 := hg3.size
    have he3 := (HE1.out.below bb HE1.out.lt).grown hg3 hneE
    refine ⟨he3, ?_⟩
    simp only [Act.put, List.getElem_toArray, List.getElem_cons_succ, List.getElem_cons_zero, List.setIfInBounds_toArray, List.set_cons_zero, List.set_cons_succ]
    have hd3 := ((HBD.out.below bb hdb1).grown hg3 hneD)
    refine wpTr_turn (v := .pointer (some ⟨db, 0, none⟩)) (w' := w3) rfl rfl (by go_simp) he3 ?_
    simp only [Act.put, List.getElem_toArray, List.getElem_cons_succ, List.getElem_cons_zero, List.setIfInBounds_toArray, List.set_cons_zero, List.set_cons_succ]
    refine wpTr_turn (v := .pointer (some ⟨db, 7, none⟩)) (w' := w3) rfl rfl (by go_simp) he3 ?_
    simp only [Act.put, List.getElem_toArray, List.getElem_cons_succ, List.getElem_cons_zero, List.setIfInBounds_toArray, List.set_cons_zero, List.set_cons_succ]
    obtain ⟨A3, c3, rfl⟩ := own_slice own3
    refine wpTr_put rfl rfl rfl 46 (.tmp 32) (.tmp 30) rfl rfl rfl hd3 (vs := [.slice A3 (S.trace.length + 1) c3]) rfl info46 (by simp [devCells]) (by simp [Value.oneCell']) ?_
    intro w4 hb4 hg4
    rw [lay_one _ _ _ (by simp [devCells])] at hb4
    refine ⟨he3.grown hg4 hneE2, ?_⟩
    unfold wpTr
    refine ⟨he3.grown hg4 hneE2, (fun | 4 => .slice AT S.trace.length cT | 6 => .slice (some ⟨w1.heap.size, 0, none⟩) 1 1 | 7 => .slice A3 (S.trace.length + 1) c3 | 8 => .pointer (some ⟨db, 0, none⟩) | 9 => .pointer (some ⟨db, 7, none⟩) | _ => undef), rfl, ?_⟩
    exact fin3 _ _ _ _ _ bb own3 hg3 hl3 hb4 hg4
  · intro f wr hb hR
    unfold wpRest
    simp only [puts, Act.put, List.map_nil, List.getElem?_toArray, List.getElem?_cons_succ, List.getElem?_cons_zero, List.setIfInBounds_toArray, List.set_cons_zero, List.set_cons_succ]
    unfold wpHead
    go_wp2_with fail
    go_end0
    exact ⟨rfl, hR⟩
end Go.Proofs.Ytbdnoiaglighhaa
