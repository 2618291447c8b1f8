/- The walk of seal.Open. No statement is proved here. -/
import Derived.Test.YtbdnoiaglighhaaRSeal
import Derived.Test.YtbdnoiaglighhaaMixR
import Derived.Deep.RegionWith
namespace Go.Proofs.Ytbdnoiaglighhaa
set_option linter.unusedVariables false
set_option linter.unusedSimpArgs false
open Go.RowKit

/-- What is opened: the text and the two numbers. -/
def openB (key raw : List UInt8) : Option (List UInt8 × Nat × Nat) :=
  if raw.length < 22 then none else
    match unpadB ((xorA key (raw.take 12) (raw.drop 12)).take (raw.length - 20)) (raw.length - 22) with
    | none => none
    | some t =>
      if putB (sumB (raw.take 12 ++ (xorA key (raw.take 12) (raw.drop 12)).take (raw.length - 20))) 8 = (xorA key (raw.take 12) (raw.drop 12)).drop (raw.length - 20)
      then some (t, getB ((raw.take 12).take 4), getB ((raw.take 12).drop 4)) else none

theorem openB_eq (key raw h x : List UInt8) (q : Nat) (hl : raw.length = q + 22) (hh : h = raw.take 12) (hx : x = xorA key h (raw.drop 12)) :
    openB key raw = match unpadB (x.take (q + 2)) q with
      | none => none
      | some t => if putB (sumB (h ++ x.take (q + 2))) 8 = x.drop (q + 2) then some (t, getB (h.take 4), getB (h.drop 4)) else none := by
  subst hh hx
  unfold openB
  rw [if_neg (by omega), hl, show q + 22 - 20 = q + 2 by omega, show q + 22 - 22 = q by omega]
theorem equal_at (A B : Option Addr) (n m c d : Nat) (l k : List UInt8) (w : World) (hn : l.length = n) (hm : k.length = m) (hl : Rd w A (bs l)) (hk : Rd w B (bs k)) :
    Calls Try.prog 85 #[.slice A n c, .slice B m d] w fun e w' => e = .returned (.bool (l == k)) ∧ w = w' := by
  subst hn hm; exact equal_calls A B c d l k w hl hk

/-- How Open ends. -/
def Opened (key raw : List UInt8) (w : World) (e : Ending) (w' : World) : Prop :=
  (∃ (t : List UInt8) (b q : Nat) (v : Value), openB key raw = some (t, b, q) ∧ b < 4294967296 ∧ q < 18446744073709551616 ∧ e = .returned (.tuple #[v, .int .u32 (b : Int), .int .u64 (q : Int), .bool true]) ∧ w'.ownsRow w.heap.size 5 1 v t.length (bs t) ∧ Below w.heap.size w w') ∨
  (openB key raw = none ∧ e = .returned (.tuple #[.slice none 0 0, .int .u32 0, .int .u64 0, .bool false]) ∧ Below w.heap.size w w')


section
variable {P : Program} {w : World}
theorem ArrOf.point {t n : Nat} (h : ArrOf P t n) (A : Option Addr) (m c : Nat) (hm : n ≤ m) (w : World) : (Instr.arrayAt t (.slice A m c)).run P w = .ok (.pointer A) w := by
  obtain ⟨e, h1, _⟩ := h
  simp [Instr.arrayAt, run_underlying h1, show ¬ m < n by omega]
/-- A load of an array out of what a slice reads. -/
theorem wpList_getRd {ops : Array Oper} {rest : List Oper} {o : Oper} {a : Act} {Q : Exit → Act → World → Prop} (hgd : o.guard = none) (ty : TypeId) (x : Operand) (ho : o.op = .load ty x)
    {A : Option Addr} {cs : List Value} {d : TypeDesc} (hx : a.eval x = .pointer A) (hr : Rd w A cs) (h0 : 0 < cs.length) (hu : P.underlying ty = some d) (hd : (match d with | .struct _ | .array _ _ => true | _ => false) = true) (hi : (P.info? ty).map (·.size) = some cs.length)
    (h : wpList P ops Q rest (a.put o.dst (.agg cs.toArray)) w) : wpList P ops Q (o :: rest) a w := by
  obtain ⟨b, q, hA, _⟩ := hr.cell (k := 0) h0
  subst hA
  refine wpList_plain hgd fun K hK => ?_
  have hl := run_loadCells_list (P := P) w ⟨b, q, none⟩ cs (fun j v hj => hr.cells _ rfl j v hj)
  unfold Oper.wp execOp
  cases hq : P.info? ty with
  | none => simp [hq] at hi
  | some i =>
    have hs : i.size = cs.length := by simp [hq] at hi; omega
    cases d <;> simp at hd <;> simp [ho, hx, Instr.loadAt, Instr.sureAddr, loadVar, isAgg, run_underlying hu, sizeOf, typeInfo, hq, hs, hl, Sem.run] <;> exact hK _ _ h

theorem exec_getAll {o : Oper} {a : Act} {g : Nat} {t : TypeId} {cs : List Value} (ty : TypeId) (x : Operand) (ho : o.op = .load ty x) {d : TypeDesc} (hx : a.eval x = .pointer (some ⟨g, 0, none⟩)) (hb : Blk w g t cs) (hu : P.underlying ty = some d)
    (hd : (match d with | .struct _ | .array _ _ => true | _ => false) = true) {n : Nat} (hi : (P.info? ty).map (·.size) = some n) (hn : cs.length = n) : (execOp a.eval o).run P w = .ok (.value (.agg cs.toArray)) w := by
  have hrun := run_loadVar_at (P := P) (off := 0) hb hu hd hi (by omega)
  rw [cut_all _ _ hn] at hrun
  unfold execOp
  simp only [ho, hx, Instr.loadAt, Instr.sureAddr, Sem.run_bind, Sem.run_pure, Result.andThen_ok, hrun]
/-- An operation of the head that yields a value. -/
theorem wpHead_val {ops : Array Oper} {w0 : World} {C : World → Prop} {K : Act → Prop} {i : Nat} {rest : List (Bool × Nat)} {a : Act} {o : Oper} {v : Value} (ho : ops[i]? = some o) (hw : Region.wanted o (yielded ops a.tmps) = true)
    (hrun : (execOp a.eval o).run P w0 = .ok (.value v) w0) (h : wpHead P ops w0 C K rest (a.put o.dst v)) : wpHead P ops w0 C K ((true, i) :: rest) a := by
  intro o' ho'
  obtain rfl : o' = o := Option.some.inj (ho'.symm.trans ho)
  refine ⟨v, fun w hw0 => .inl ⟨hw, .inl ?_⟩, h⟩
  simp only [if_true] at hw0
  subst hw0
  exact hrun
/-- A call of the head (or the rest) that changes nothing. -/
theorem wpHead_call {ops : Array Oper} {w0 : World} {C : World → Prop} {K : Act → Prop} {i : Nat} {rest : List (Bool × Nat)} {a : Act} {o : Oper} {f : FuncId} {args : Array Value} {v : Value} (ho : ops[i]? = some o) (hw : Region.wanted o (yielded ops a.tmps) = true)
    (hrun : ∀ w, (execOp a.eval o).run P w = .ok (.enter f args) w) (hc : Calls P f args w0 fun e w' => e = .returned v ∧ w0 = w') (h : wpHead P ops w0 C K rest (a.put o.dst v)) : wpHead P ops w0 C K ((true, i) :: rest) a := by
  intro o' ho'
  obtain rfl : o' = o := Option.some.inj (ho'.symm.trans ho)
  refine ⟨v, fun w hw0 => .inl ⟨hw, .inr (.inr ⟨f, args, hrun w, ?_⟩)⟩, h⟩
  simp only [if_true] at hw0
  subst hw0
  exact hc.mono fun e w' h => ⟨h.1, h.2.symm⟩
/-- The same, whatever has been stored. -/
theorem wpHead_callLate {ops : Array Oper} {w0 : World} {C : World → Prop} {K : Act → Prop} {i : Nat} {rest : List (Bool × Nat)} {a : Act} {o : Oper} {f : FuncId} {args : Array Value} {v : Value} (ho : ops[i]? = some o) (hw : Region.wanted o (yielded ops a.tmps) = true)
    (hrun : ∀ w, (execOp a.eval o).run P w = .ok (.enter f args) w) (hc : ∀ w, C w → Calls P f args w fun e w' => e = .returned v ∧ w = w') (h : wpHead P ops w0 C K rest (a.put o.dst v)) : wpHead P ops w0 C K ((false, i) :: rest) a := by
  intro o' ho'
  obtain rfl : o' = o := Option.some.inj (ho'.symm.trans ho)
  exact ⟨v, fun w hw0 => .inl ⟨hw, .inr (.inr ⟨f, args, hrun w, (hc w (by simpa using hw0)).mono fun e w' h => ⟨h.1, h.2.symm⟩⟩)⟩, h⟩
end

set_option maxHeartbeats 1000000 in
set_option maxRecDepth 100000 in
theorem open_calls (key : List UInt8) (hk : key.length = 32) (raw : List UInt8) (A : Option Addr) (n c : Nat) (hn : raw.length = n) (hc : n ≤ c) (hs : n ≤ 60000) (w : World) (hr : Rd w A (bs raw)) :
    Calls Try.prog 34 #[.agg (bs key).toArray, .slice A n c] w (Opened key raw w) := by
  have HK := Lib.hid hk
  have HN := Lib.hid hn
  have HR := Lib.hid hr
  clear hk hn hr
  generalize hX : bs key = X at *
  have HX := Lib.hid hX
  clear hX
  by_cases hq : n < 22
  · go_enter Try.func34, Try.ntmps34
    go_wp2_with fail
    ((try simp only [Exit.inBlock, Exit.then]); refine bodyPost_ret (results_tmp4 rfl _ _ _) rfl ?_)
    exact .inr ⟨by unfold openB; rw [if_pos (by rw [HN.out]; exact hq)], rfl, (Below.refl w.heap.size w).alloc (Nat.le_refl _) (.cells X.toArray 58)⟩
  have hH : (raw.take 12).length = 12 := by rw [List.length_take, HN.out]; omega
  have b0 := (Blk.new w 58 X).alloc (.cells noughts12.toArray 48)
  have hbel := ((Below.refl w.heap.size w).alloc (Nat.le_refl _) (.cells X.toArray 58)).alloc (by simp) (.cells noughts12.toArray 48)
  have hP := Blk.new (w.alloc (.cells X.toArray 58)) 48 noughts12
  rw [World.size_alloc] at hP
  have hRH := rd_to (HR.out.alloc (.cells X.toArray 58)) 12
  obtain ⟨h, hh⟩ : ∃ h, h = raw.take 12 := ⟨_, rfl⟩
  rw [← hh] at hH hRH
  have hHb : (bs h).length = 12 := by rw [bs_length, hH]
  have B0 := Lib.hid b0
  have BB := Lib.hid hbel
  have HP := Lib.hid hP
  have Hh := Lib.hid hh
  have HH := Lib.hid hH
  have HHb := Lib.hid hHb
  have RH := Lib.hid hRH
  clear b0 hbel hP hH hHb hh hRH
  have hpt := arr48.point A 12 c (by decide)
  go_enter Try.func34, Try.ntmps34
  go_wp2_with (first
    | (refine wpList_getRd rfl 48 (.tmp 18) rfl rfl RH.out (by rw [HHb.out]; decide) Try.underlying48 rfl (by rw [HHb.out]; exact info48) ?_)
    | (refine wpList_putAll rfl 48 (.tmp 8) (.tmp 19) rfl (vs := bs h) rfl rfl HP.out info48 HHb.out (by decide) (bs_one _) ?_; intro w5 hP5 hg5))
  have C0 := Lib.hid (B0.out.grown hg5 (by simp))
  have CB := Lib.hid (BB.out.grown hg5 (by simp; omega) (fun j hj => by cases hj; omega))
  have C1 := Lib.hid hP5
  have CR := Lib.hid (HR.out.below CB.out)
  have hc12 : ¬ c = 12 := by omega
  have hn12 : (12 : Int) ≤ (n : Int) := by omega
  clear hP5 hg5 B0 BB HP RH
  try simp only [Act.put]
  refine wp_region_mixR [(true, 0), (true, 1), (true, 2), (true, 3)] [4] [5, 6, 7, 8, 9] (by kernel_rfl) (by kernel_rfl) (fun _ => True) trivial ?_
  refine wpHead_val rfl rfl (exec_getAll 58 (.tmp 2) rfl rfl (show Blk w5.drew w.heap.size 58 X from C0.out) Try.underlying58 rfl info58 (by rw [← HX.out, bs_length, HK.out])) ?_
  simp only [Act.put, List.getElem_toArray, List.getElem_cons_succ, List.getElem_cons_zero, List.setIfInBounds_toArray, List.set_cons_zero, List.set_cons_succ]
  refine wpHead_val rfl rfl (exec_getAll 48 (.tmp 8) rfl rfl (show Blk w5.drew (w.heap.size + 1) 48 (bs h) from C1.out) Try.underlying48 rfl info48 HHb.out) ?_
  simp only [Act.put, List.getElem_toArray, List.getElem_cons_succ, List.getElem_cons_zero, List.setIfInBounds_toArray, List.set_cons_zero, List.set_cons_succ]
  iterate 2
    refine wpHead_early rfl (fun K hK => ?_)
    go_simp
    refine hK _ ?_
    clear hK K
  obtain ⟨y, hy⟩ : ∃ y, y = raw.drop 12 := ⟨_, rfl⟩
  have hyl : y.length = n - 12 := by rw [hy, List.length_drop, HN.out]
  have hry : Rd w5.drew (Option.map (fun x : Addr => (⟨x.block, x.off + 12, none⟩ : Addr)) A) (bs y) := by
    rw [hy]
    exact rd_from (c := c) (show Rd w5.drew A (bs raw) from CR.out) (by rw [HN.out]; omega) (by rw [HN.out]; exact hc) (by rintro b o rfl h; rfl)
  have Hy := Lib.hid hy
  have HYl := Lib.hid hyl
  clear hy hyl
  refine wpStores_call (f := 83) rfl rfl (by exact exec_enter (xl := [.tmp 21, .tmp 22, .const (.int .u32 0), .tmp 24]) rfl rfl Try.func83 rfl rfl _) (by rw [← HX.out]; exact xor_calls key h y _ (n - 12) _ HK.out HH.out (by rw [HYl.out]; omega) HYl.out _ hry) ?_
  rintro e w6 ⟨v6, rfl, hown6, hb6⟩
  refine ⟨_, rfl, trivial, ?_⟩
  obtain ⟨A6, c6, rfl⟩ := own_slice hown6
  simp only [Act.put, List.getElem_toArray, List.getElem_cons_succ, List.getElem_cons_zero, List.setIfInBounds_toArray, List.set_cons_zero, List.set_cons_succ]
  have D0 := Lib.hid ((show Blk w5.drew (w.heap.size + 1) 48 (bs h) from C1.out).below hb6 C1.out.lt)
  have DB := Lib.hid (CB.out.drew.trans (hb6.mono (show w.heap.size ≤ w5.heap.size from CB.out.size)))
  have DO := Lib.hid (Joins.ownsRow_le (base' := w.heap.size + 2) hown6 (by have := C1.out.lt; show w.heap.size + 2 ≤ w5.heap.size; omega))
  clear hb6 hown6 C0 C1 CB CR hry
  obtain ⟨q, rfl⟩ : ∃ q, n = q + 22 := ⟨n - 22, by omega⟩
  have hm : q + 22 - 12 = q + 10 := by omega
  rw [hm] at HYl DO ⊢
  have hz : (xorA key h y).length = q + 10 := by rw [xorA_length, HYl.out]
  obtain ⟨x, hx⟩ : ∃ x, x = xorA key h y := ⟨_, rfl⟩
  rw [← hx] at hz DO
  have Hx := Lib.hid hx
  have HXl := Lib.hid hz
  clear hx hz
  have hc6 : q + 10 ≤ c6 := (own_at DO.out (by omega)).choose_spec.2.1
  unfold wpStores wpRest
  simp only [List.map_cons, List.map_nil]
  iterate 5
    refine wpHead_early rfl (fun K hK => ?_)
    go_simp
    refine hK _ ?_
    clear hK K
  unfold wpHead
  go_wp2_with fail
  have i1 : (0 : Int) ≤ ((q + 10 : Nat) : Int) - 8 := by omega
  have i2 : ((q + 10 : Nat) : Int) - 8 ≤ ((q + 10 : Nat) : Int) := by omega
  try simp only [Act.put]
  go_quiet (fail)
  go_wp2_with fail
  refine (room_calls _ _ (by omega) (by omega)).mono ?_
  rintro e w7 ⟨rfl, rfl⟩
  go_wp2_with fail
  have E0 := Lib.hid (show Blk (w6.drewN nq) (w.heap.size + 1) 48 (bs h) from D0.out)
  have EB := Lib.hid (show Below w.heap.size w (w6.drewN nq) from ⟨DB.out.os, DB.out.tape, DB.out.output, DB.out.size, DB.out.block⟩)
  have EO := Lib.hid (show (w6.drewN nq).ownsRow (w.heap.size + 2) 5 1 (.slice A6 (q + 10) c6) (q + 10) (bs x) from DO.out)
  clear D0 DB DO
  have hopen := openB_eq key raw h x q HN.out Hh.out (by rw [← Hy.out]; exact Hx.out)
  have hrl : (x.take (q + 2)).length = q + 2 := by rw [List.length_take, HXl.out]; omega
  have hzl : (x.drop (q + 2)).length = 8 := by rw [List.length_drop, HXl.out]; omega
  have rr := rd_to (Rd.of_own EO.out) (q + 2)
  have rz : Rd (w6.drewN nq) (Option.map (fun x : Addr => (⟨x.block, x.off + (q + 1 + 1), none⟩ : Addr)) A6) (bs (x.drop (q + 2))) := rd_from (c := c6) (Rd.of_own EO.out) (by rw [HXl.out]; omega) (by rw [HXl.out]; exact hc6) (by rintro b o rfl h; rfl)
  generalize w6.drewN nq = w8 at *
  obtain ⟨r, hr⟩ : ∃ r, r = x.take (q + 2) := ⟨_, rfl⟩
  obtain ⟨z, hz⟩ : ∃ z, z = x.drop (q + 2) := ⟨_, rfl⟩
  rw [← hr] at hrl rr hopen
  rw [← hz] at hzl rz hopen
  clear hr hz
  have HOp := Lib.hid hopen
  have HRl := Lib.hid hrl
  have HZl := Lib.hid hzl
  clear hopen hrl hzl
  refine (unpad_calls A6 c6 r q _ rr HRl.out (by omega) (by omega)).mono ?_
  rintro e w9 (⟨t, v9, hu, rfl, hown9, hb9⟩ | ⟨hu, rfl, rfl⟩)
  · have HU := Lib.hid hu
    obtain ⟨A9, c9, rfl⟩ := own_slice hown9
    have F0 := Lib.hid (E0.out.below hb9 E0.out.lt)
    have FB := Lib.hid (EB.out.trans (hb9.mono EB.out.size))
    have FO := Lib.hid (Joins.ownsRow_le (base' := w.heap.size) hown9 EB.out.size)
    have Fr := Lib.hid (rr.below hb9)
    have Fz := Lib.hid (rz.below hb9)
    clear hb9 hown9 hu E0 EB EO rr rz
    have hall := arr48.all (w.heap.size + 1) 0
    go_wp2_with fail
    have hrp := (Blk.new w9 41 ([Part.mk (some ⟨w.heap.size + 1, 0, none⟩) 12 h, Part.mk A6 c6 r].map Part.val)).rdAll
    have hargs : (Obj.cells ([Part.mk (some ⟨w.heap.size + 1, 0, none⟩) 12 h, Part.mk A6 c6 r].map Part.val).toArray 41) = .cells #[.slice (some ⟨w.heap.size + 1, 0, none⟩) 12 12, .slice A6 (q + 2) c6] 41 := by
      simp [Part.val, HH.out, HRl.out]
    rw [hargs] at hrp
    refine (sum_calls _ _ _ _ _ rfl hrp ?_ (by simp)).mono ?_
    · intro p hp
      simp only [List.mem_cons, List.not_mem_nil, or_false] at hp
      rcases hp with rfl | rfl
      · exact ⟨(F0.out.alloc _).rdAll, by show h.length ≤ _; rw [HH.out]; decide⟩
      · exact ⟨Fr.out.alloc _, by show r.length ≤ _; rw [HRl.out]; omega⟩
    rintro e w10 ⟨rfl, rfl⟩
    have hsum : joinP [Part.mk (some ⟨w.heap.size + 1, 0, none⟩) 12 h, Part.mk A6 c6 r] = h ++ r := by simp [joinP]
    rw [hsum]
    have G0 := Lib.hid (F0.out.alloc (.cells #[.slice (some ⟨w.heap.size + 1, 0, none⟩) 12 12, .slice A6 (q + 2) c6] 41))
    have GB := Lib.hid (FB.out.alloc FB.out.size (.cells #[.slice (some ⟨w.heap.size + 1, 0, none⟩) 12 12, .slice A6 (q + 2) c6] 41))
    have GO := Lib.hid (FO.out.alloc (.cells #[.slice (some ⟨w.heap.size + 1, 0, none⟩) 12 12, .slice A6 (q + 2) c6] 41))
    have Gz := Lib.hid (Fz.out.alloc (.cells #[.slice (some ⟨w.heap.size + 1, 0, none⟩) 12 12, .slice A6 (q + 2) c6] 41))
    clear hrp hargs hsum F0 FB FO Fr Fz
    generalize w9.alloc (.cells #[.slice (some ⟨w.heap.size + 1, 0, none⟩) 12 12, .slice A6 (q + 2) c6] 41) = w10 at *
    go_wp2_with fail
    refine (put_at (sumB (h ++ r)) 8 _ _ _ rfl rfl (by decide)).mono ?_
    rintro e w11 ⟨v11, rfl, hown11, hb11⟩
    obtain ⟨A11, c11, rfl⟩ := own_slice hown11
    have I0 := Lib.hid (G0.out.below hb11 G0.out.lt)
    have IB := Lib.hid (GB.out.trans (hb11.mono GB.out.size))
    have IO := Lib.hid (own_below GO.out hb11)
    have Iz := Lib.hid (Gz.out.below hb11)
    clear hb11 G0 GB GO Gz
    go_wp2_with fail
    refine (equal_at _ _ 8 8 _ _ z (putB (sumB (h ++ r)) 8) _ HZl.out (putB_length _ _) Iz.out (.of_own hown11)).mono ?_
    rintro e w12 ⟨rfl, rfl⟩
    have h4 := arr48.h (w.heap.size + 1) 0 4 (H := 4) rfl (by decide)
    have h8 := arr48.l (w.heap.size + 1) 0 4 (L := 4) rfl (by decide)
    rw [Nat.zero_add] at h8
    by_cases heq : putB (sumB (h ++ r)) 8 = z
    · rw [show (z == putB (sumB (h ++ r)) 8) = true by simp [heq]]
      have HE := Lib.hid (show openB key raw = some (t, getB (h.take 4), getB (h.drop 4)) by rw [HOp.out, HU.out]; simp [heq])
      clear heq
      have hb4 : (h.take 4).length = 4 := by rw [List.length_take, HH.out]; rfl
      have hb8 : (h.drop 4).length = 8 := by rw [List.length_drop, HH.out]
      have r4 : Rd w11 (some ⟨w.heap.size + 1, 0, none⟩) (bs (h.take 4)) := rd_to I0.out.rdAll 4
      have r8 : Rd w11 (some ⟨w.heap.size + 1, 4, none⟩) (bs (h.drop 4)) := by
        have := I0.out.rd (o := 4) (n := 8) (by rw [HHb.out]; decide)
        rwa [bs_cut, List.take_of_length_le (by omega)] at this
      have lb : getB (h.take 4) < 4294967296 := by have := getB_lt (h.take 4); rwa [hb4] at this
      have ls : getB (h.drop 4) < 18446744073709551616 := by have := getB_lt (h.drop 4); rwa [hb8] at this
      have c4 : ∀ W : World, W.heap = w11.heap → Calls Try.prog 86 #[.slice (some ⟨w.heap.size + 1, 0, none⟩) 4 12] W fun e w' => e = .returned (.int .u64 (getB (h.take 4) : Nat)) ∧ w' = W := fun W hW => by
        have := get_at (some ⟨w.heap.size + 1, 0, none⟩) 4 12 (h.take 4) W hb4 (r4.keep fun b _ => by rw [hW]) (by decide)
        rw [List.take_of_length_le (l := h.take 4) (by omega)] at this
        exact this.mono fun _ _ h => ⟨h.1, h.2.symm⟩
      have c8 : ∀ W : World, W.heap = w11.heap → Calls Try.prog 86 #[.slice (some ⟨w.heap.size + 1, 4, none⟩) 8 8] W fun e w' => e = .returned (.int .u64 (getB (h.drop 4) : Nat)) ∧ w' = W := fun W hW => by
        have := get_at (some ⟨w.heap.size + 1, 4, none⟩) 8 8 (h.drop 4) W hb8 (r8.keep fun b _ => by rw [hW]) (by decide)
        rw [List.take_of_length_le (l := h.drop 4) (by omega)] at this
        exact this.mono fun _ _ h => ⟨h.1, h.2.symm⟩
      generalize getB (h.take 4) = bo at *
      generalize getB (h.drop 4) = se at *
      have HC4 := Lib.hid c4
      have HC8 := Lib.hid c8
      clear c4 c8 r4 r8 hb4 hb8
      go_wp2_with fail
      try simp only [Act.put]
      go_quiet ((first
        | (go_at_call_of 86 (12 : Nat); refine Calls.quiet_of_same (HC4.out _ ?_); rfl)
        | (go_at_call 86; refine Calls.quiet_of_same (HC8.out _ ?_); rfl)))
      go_wp2_with fail
      ((try simp only [Exit.inBlock, Exit.then]); refine bodyPost_ret (results_tmp4 rfl _ _ _) rfl ?_)
      exact .inl ⟨t, bo, se, _, HE.out, lb, ls, rfl, IO.out, ⟨IB.out.os, IB.out.tape, IB.out.output, IB.out.size, IB.out.block⟩⟩
    · rw [show (z == putB (sumB (h ++ r)) 8) = false by rw [beq_eq_false_iff_ne]; exact fun e => heq e.symm]
      have HE := Lib.hid (show openB key raw = none by rw [HOp.out, HU.out]; simp [heq])
      clear heq
      go_wp2_with fail
      ((try simp only [Exit.inBlock, Exit.then]); refine bodyPost_ret (results_tmp4 rfl _ _ _) rfl ?_)
      exact .inr ⟨HE.out, rfl, IB.out⟩
  · have HE := Lib.hid (show openB key raw = none by rw [HOp.out, hu])
    clear hu
    go_wp2_with fail
    ((try simp only [Exit.inBlock, Exit.then]); refine bodyPost_ret (results_tmp4 rfl _ _ _) rfl ?_)
    exact .inr ⟨HE.out, rfl, EB.out⟩
end Go.Proofs.Ytbdnoiaglighhaa
