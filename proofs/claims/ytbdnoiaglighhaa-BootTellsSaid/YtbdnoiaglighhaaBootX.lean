/- The walk of the reference's Parse. No statement is proved here. -/
import Derived.Test.YtbdnoiaglighhaaBootQ
import Derived.Test.YtbdnoiaglighhaaROpen
namespace Go.Proofs.Ytbdnoiaglighhaa
set_option linter.unusedVariables false
set_option linter.unusedSimpArgs false
set_option linter.constructorNameAsVariable false
open Go.RowKit Go.Maps

theorem wpStores_callG {P : Program} {ops : Array Oper} {C : World → Prop} {K : Act → World → Prop} {i : Nat} {rest : List Nat} {a : Act} {w : World} {o : Oper} {f : FuncId} {args : Array Value} {R : Ending → World → Prop} (ho : ops[i]? = some o) (hw : Region.wanted o (yielded ops a.tmps) = true)
    (hrun : (execOp a.eval o).run P w = .ok (.enter f args) w) (hc : Calls P f args w R) (h : ∀ e w', R e w' → ∃ v, e = .returned v ∧ C w' ∧ wpStores P ops C K rest (a.put o.dst v) w') : wpStores P ops C K (i :: rest) a w := by
  intro o' ho'
  obtain rfl : o' = o := Option.some.inj (ho'.symm.trans ho)
  exact .inl ⟨hw, .inr (.inr ⟨f, args, w, hrun, hc.mono fun e w' hr => h e w' hr⟩)⟩
theorem same_of (A B : Option Addr) (n m c d : Nat) (l k : List UInt8) (w : World) (hn : l.length = n) (hm : k.length = m) (hl : Rd w A (bs l)) (hk : Rd w B (bs k)) :
    Calls Try.prog 37 #[.slice A n c, .slice B m d] w fun e w' => e = .returned (.bool (l == k)) ∧ w = w' := by
  subst hn hm; exact same_calls A B c d l k w hl hk
theorem parse_no {b : List UInt8} (h : ¬ (b.take 24 = recB (getB ((b.drop 12).take 4)) ∧ (b.drop 24).all (· == 0) = true)) : parseB b = none := by
  unfold parseB
  repeat' split
  all_goals first | rfl | exact absurd (by assumption) h
set_option maxHeartbeats 1000000 in
set_option maxRecDepth 100000 in
theorem rparse_calls (A : Option Addr) (n c : Nat) (b : List UInt8) (w : World) (hn : b.length = n) (hc : n ≤ c) (hm : n ≤ 60000) (hr : Rd w A (bs b)) :
    Calls Try.prog 48 #[.slice A n c] w fun e w' => ParsedIs b e ∧ Below w.heap.size w w' := by
  by_cases h24 : n < 24
  · have h24' : (n : Int) < 24 := by omega
    have hp : parseB b = none := by unfold parseB; rw [if_pos (by omega)]
    have HP := Lib.hid hp
    clear hp hn hr
    go_enter Try.func48, Try.ntmps48
    go_wp2
    go_ret2
    exact ⟨parsed_none HP.out rfl, .refl _ _⟩
  have h24' : ¬ (n : Int) < 24 := by omega
  obtain ⟨bb, o, hA, -⟩ := hr.cell (k := 0) (by rw [bs_length]; omega)
  subst hA
  have hc16 : (16 : Int) ≤ (c : Int) := by omega
  have hc12 : ¬ c = 12 := by omega
  have hrx : Rd w (some ⟨bb, o + 12, none⟩) (bs ((b.drop 12).take 4)) := rd_cut (c := c) hr 4 (by omega) (by omega) (fun b' o' hA _ => by cases hA; rfl)
  have hxl : ((b.drop 12).take 4).length = 4 := by simp; omega
  have hx8 : ((b.drop 12).take 4).take 8 = (b.drop 12).take 4 := List.take_of_length_le (by omega)
  have hxlt := num_lt b
  obtain ⟨x, hx⟩ : ∃ x, x = getB ((b.drop 12).take 4) := ⟨_, rfl⟩
  have hget := rget_at (some ⟨bb, o + 12, none⟩) 4 (c - 12) ((b.drop 12).take 4) w hxl hrx (by decide)
  rw [hx8, ← hx] at hget
  rw [← hx] at hxlt
  have HG := Lib.hid hget
  have HX := Lib.hid hx
  have HN := Lib.hid hn
  have HR := Lib.hid hr
  have e32 : IntKind.u32.wrap (x : Int) = (x : Int) := by rw [IntKind.wrap_u32]; omega
  clear hget hx hn hr hrx hxl hx8
  go_enter Try.func48, Try.ntmps48
  go_wp2_with fail
  refine HG.out.mono ?_
  rintro e w' ⟨rfl, rfl⟩
  by_cases hx0 : x = 0
  · have hp : parseB b = none := by unfold parseB; rw [if_neg (by rw [HN.out]; omega), if_pos (by rw [← HX.out]; exact hx0)]
    have HP := Lib.hid hp
    clear hp
    subst hx0
    go_wp2_with fail
    try simp only [Act.put]
    go_quiet (fail)
    go_wp2_with fail
    go_ret2
    exact ⟨parsed_none HP.out rfl, below_drewN (Below.refl _ _) _⟩
  have hx0' : ¬ (x : Int) = 0 := by omega
  have hb0 : ((x : Int) == 0) = false := beq_eq_false_iff_ne.2 hx0'
  go_wp2_with fail
  try simp only [Act.put]
  refine wp_region_mixR [(true, 0), (true, 1), (true, 2), (true, 5), (false, 3), (false, 4)] [6] [7, 8, 9] (by kernel_rfl) (by kernel_rfl) (fun _ => True) trivial ?_
  iterate 4
    refine wpHead_early rfl (fun K hK => ?_)
    go_simp
    refine hK _ ?_
    clear hK K
  refine wpHead_late rfl (fun K hK => ⟨.slice (some ⟨bb, o, none⟩) n c, fun w' hC => ⟨rfl, rfl⟩, hK _ ?_⟩)
  clear hK K
  simp only [Act.put, List.getElem_toArray, List.getElem_cons_succ, List.getElem_cons_zero, List.setIfInBounds_toArray, List.set_cons_zero, List.set_cons_succ]
  have hs24 := fun W => sl_to (P := Try.prog) Try.underlying41 info5 bb o n c 24 24 rfl (by omega) W
  refine wpHead_late rfl (fun K hK => ⟨.slice (some ⟨bb, o, none⟩) 24 c, fun w' hC => ⟨rfl, by first | (go_simp; done) | (go_simp; rw [hs24]; rfl)⟩, hK _ ?_⟩)
  clear hK K
  simp only [Act.put, List.getElem_toArray, List.getElem_cons_succ, List.getElem_cons_zero, List.setIfInBounds_toArray, List.set_cons_zero, List.set_cons_succ]
  unfold wpHead
  refine wpStores_callG (f := 40) rfl rfl (by exact exec_enter (xl := [.tmp 18]) rfl rfl Try.func40 rfl rfl _) (rrec_calls x hxlt w.drew) ?_
  rintro e w1 ⟨v1, rfl, hown1, hb1⟩
  obtain ⟨A1, c1, rfl⟩ := own_slice hown1
  refine ⟨_, rfl, trivial, ?_⟩
  simp only [Act.put, List.getElem_toArray, List.getElem_cons_succ, List.getElem_cons_zero, List.setIfInBounds_toArray, List.set_cons_zero, List.set_cons_succ]
  have hb1 : Below w.heap.size w w1 := ⟨hb1.os, hb1.tape, hb1.output, hb1.size, hb1.block⟩
  have HB1 := Lib.hid hb1
  have RB := Lib.hid (HR.out.below hb1)
  have R1 := Lib.hid (Rd.of_own hown1)
  clear hown1 hb1 hs24
  unfold wpStores wpRest
  simp only [List.map_cons, List.map_nil]
  refine wpHead_call (f := 37) (v := .bool (b.take 24 == recB x)) rfl rfl (fun W => by exact exec_enter (xl := [.tmp 17, .tmp 19]) rfl rfl Try.func37 rfl rfl W) (same_of _ _ 24 24 c c1 (b.take 24) (recB x) w1 (by rw [List.length_take, HN.out]; omega) (recB_length x) (rd_to RB.out 24) R1.out) ?_
  simp only [Act.put, List.getElem_toArray, List.getElem_cons_succ, List.getElem_cons_zero, List.setIfInBounds_toArray, List.set_cons_zero, List.set_cons_succ]
  by_cases ht : b.take 24 = recB x
  rotate_left
  · have hp : parseB b = none := parse_no (fun h => ht (by rw [HX.out]; exact h.1))
    have hf : (b.take 24 == recB x) = false := beq_eq_false_iff_ne.2 ht
    rw [hf]
    have HP := Lib.hid hp
    clear hp ht hf
    iterate 2
      refine wpHead_early rfl (fun K hK => ?_)
      go_simp
      refine hK _ ?_
      clear hK K
    unfold wpHead
    go_wp2_with fail
    go_ret2
    exact ⟨parsed_none HP.out rfl, HB1.out⟩
  have hf : (b.take 24 == recB x) = true := by rw [ht]; exact beq_self_eq_true _
  rw [hf]
  have HT := Lib.hid ht
  clear ht hf
  iterate 2
    refine wpHead_early rfl (fun K hK => ?_)
    go_simp
    refine hK _ ?_
    clear hK K
  unfold wpHead
  go_wp2_with fail
  go_loop [5] (fun i => ∃ k : Nat, 24 ≤ k ∧ k ≤ n ∧ i = .int .i64 (k : Int) ∧ ∀ j (hj : j < b.length), 24 ≤ j → j < k → b[j] = 0) (fun i => n - (intOf i).toNat)
  case atStart => exact ⟨24, Nat.le_refl _, by omega, rfl, fun j _ h1 h2 => absurd h2 (by omega)⟩
  case round =>
    obtain ⟨k, hk1, hk2, rfl, hall⟩ := hrel
    have HALL := Lib.hid hall
    clear hall
    by_cases hlt : k < n
    · have hlt' : (k : Int) < (n : Int) := by omega
      have hkl : k < b.length := by rw [HN.out]; exact hlt
      obtain ⟨b', o', hA, hcell⟩ := RB.out.cell (k := k) (by rw [bs_length]; exact hkl)
      injection hA with hA
      injection hA with h1 h2
      subst h1 h2
      rw [List.getElem_map] at hcell
      obtain ⟨y, hy⟩ : ∃ y, y = b[k] := ⟨_, rfl⟩
      rw [← hy, byt_eq] at hcell
      have hylt := byte_lt y
      by_cases hy0 : y = 0
      · have HY := Lib.hid hy
        subst hy0
        have hcell : w1.cell? ⟨bb, o + k, none⟩ = some (.int .u8 0) := hcell
        clear hy
        go_wp2
        go_round
        case rel => exact ⟨k + 1, by omega, by omega, by go_num, fun j hj h1 h2 => by
          rcases Nat.lt_or_ge j k with h | h
          · exact HALL.out j hj h1 h
          · obtain rfl : j = k := by omega
            exact HY.out.symm⟩
        case measure => simp [intOf]; omega
      · have hy0' : ¬ (y.toNat : Int) = 0 := fun h => hy0 (by apply UInt8.toNat.inj; simpa using h)
        have hp : parseB b = none := parse_no (fun h => hy0 (by
          have := List.all_eq_true.1 h.2 b[k] (by
            rw [List.mem_iff_getElem]
            exact ⟨k - 24, by rw [List.length_drop]; omega, by rw [List.getElem_drop]; congr 1; omega⟩)
          rw [hy]
          exact eq_of_beq this))
        have HP := Lib.hid hp
        clear hy hp
        go_wp2
        go_ret2
        exact ⟨parsed_none HP.out rfl, HB1.out⟩
    · obtain rfl : k = n := by omega
      have hlt' : ¬ (k : Int) < (k : Int) := by omega
      have hz : (b.drop 24).all (· == 0) = true := List.all_eq_true.2 (fun y hy => by
        obtain ⟨j, hj, rfl⟩ := List.mem_iff_getElem.1 hy
        rw [List.getElem_drop]
        rw [List.length_drop, HN.out] at hj
        have := HALL.out (24 + j) (by rw [HN.out]; omega) (by omega) (by omega)
        rw [this]; rfl)
      have hp : parseB b = some x := by
        unfold parseB
        rw [if_neg (by rw [HN.out]; omega), if_neg (by rw [← HX.out]; exact hx0), if_pos ⟨by rw [← HX.out]; exact HT.out, hz⟩, HX.out]
      have HP := Lib.hid hp
      clear hp hz
      go_wp2
      go_ret2
      exact ⟨parsed_some HP.out rfl, HB1.out⟩
end Go.Proofs.Ytbdnoiaglighhaa
