/- The walk of package boot's Record (printed by genrec.py). No statement is proved here. -/
import Derived.Test.YtbdnoiaglighhaaBootR
import Derived.Test.YtbdnoiaglighhaaMixU
namespace Go.Proofs.Ytbdnoiaglighhaa
set_option linter.unusedVariables false
set_option linter.unusedSimpArgs false
set_option linter.constructorNameAsVariable false
open Go.RowKit Go.Maps

theorem list4 (m : List UInt8) (h : m.length = 4) : ∃ p0 p1 p2 p3, m = [p0, p1, p2, p3] := by
  match m, h with
  | [p0, p1, p2, p3], _ => exact ⟨p0, p1, p2, p3, rfl⟩
theorem listQ (m : List UInt8) (h : m.length = 8) : ∃ q0 q1 q2 q3 q4 q5 q6 q7, m = [q0, q1, q2, q3, q4, q5, q6, q7] := by
  match m, h with
  | [q0, q1, q2, q3, q4, q5, q6, q7], _ => exact ⟨q0, q1, q2, q3, q4, q5, q6, q7, rfl⟩
theorem join_le (ps : List Part) (k : Nat) : (joinP (ps.take k)).length ≤ (joinP ps).length := by
  have h : joinP ps = joinP (ps.take k) ++ joinP (ps.drop k) := by
    unfold joinP
    rw [← List.flatten_append, ← List.map_append, List.take_append_drop]
  rw [h, List.length_append]
  omega
set_option maxHeartbeats 4000000 in
set_option maxRecDepth 100000 in
theorem rec_calls (n : Nat) (hn : n < 4294967296) (w : World) : Calls Try.prog 49 #[.int .u32 (n : Int)] w fun e w' => ∃ A c, e = .returned (.slice A 24 c) ∧ w'.ownsRow w.heap.size 5 1 (.slice A 24 c) 24 (bs (recB n)) ∧ Below w.heap.size w w' := by
  have hmk : ∀ W : World, (Instr.makeSlice 41 (.int .i64 12) (.int .i64 12)).run Try.prog W = .ok (.slice (some ⟨W.heap.size, 0, none⟩) 12 12) (W.alloc (.cells (bs (List.replicate 12 0)).toArray 5)) := make_bytes 12 (by decide)
  have e1 : IntKind.u64.wrap (n : Int) = (n : Int) := by rw [IntKind.wrap_u64]; omega
  go_enter Try.func49, Try.ntmps49
  go_wp2_with fail
  refine (put_at n 4 _ _ _ rfl rfl (by omega)).mono ?_
  rintro e w1 ⟨v1, rfl, hown1, hb1⟩
  obtain ⟨A1, c1, rfl⟩ := own_slice hown1
  obtain ⟨P, hP⟩ : ∃ P, P = putB n 4 := ⟨_, rfl⟩
  rw [← hP] at hown1
  obtain ⟨p0, p1, p2, p3, rfl⟩ := list4 P (by rw [hP, putB_length])
  obtain ⟨Q, hQ⟩ : ∃ Q, Q = putB (sumB [p0, p1, p2, p3]) 8 := ⟨_, rfl⟩
  obtain ⟨q0, q1, q2, q3, q4, q5, q6, q7, rfl⟩ := listQ Q (by rw [hQ, putB_length])
  have HREC := Lib.hid (show recB n = joinP [⟨none, 12, List.replicate 12 0⟩, ⟨A1, c1, [p0, p1, p2, p3]⟩, ⟨none, 8, [q0, q1, q2, q3, q4, q5, q6, q7]⟩] by unfold recB; rw [← hP, ← hQ]; rfl)
  have hq := hQ.symm
  have HQQ := Lib.hid hq
  have HB1 := Lib.hid hb1
  have RP := Lib.hid (Rd.of_own hown1)
  have hs1 := hb1.size
  clear hP hQ hb1 hown1 hq
  go_wp2_with fail
  try simp only [Act.put]
  refine wp_region_mixT [(false, 1), (false, 2)] [0, 3, 4, 5, 6, 7] [8] (.fork (.go 0 (.go 3 (.go 4 (.go 5 (.go 6 (.go 7 .stop)))))) (.go 3 (.fork (.go 0 (.go 4 (.go 5 (.go 6 (.go 7 .stop))))) (.go 4 (.fork (.go 0 (.go 5 (.go 6 (.go 7 .stop)))) (.go 5 (.go 0 (.go 6 (.go 7 .stop))))))))) (by kernel_rfl) (by kernel_rfl)
    (fun w' => Below w1.heap.size w1 w') (fun f w' => ∃ A c, f 7 = .slice A 24 c ∧ w'.ownsRow w1.heap.size 5 1 (.slice A 24 c) 24 (bs (recB n))) (Below.refl _ _).drew ?_
  refine wpHead_late rfl (fun K hK => ⟨.slice A1 4 c1, fun w' hC => ⟨rfl, rfl⟩, hK _ ?_⟩)
  clear hK K
  simp only [Act.put, List.getElem_toArray, List.getElem_cons_succ, List.getElem_cons_zero, List.setIfInBounds_toArray, List.set_cons_zero, List.set_cons_succ]
  refine wpHead_late rfl (fun K hK => ⟨.slice A1 4 c1, fun w' hC => ⟨rfl, rfl⟩, hK _ ?_⟩)
  clear hK K
  simp only [Act.put, List.getElem_toArray, List.getElem_cons_succ, List.getElem_cons_zero, List.setIfInBounds_toArray, List.set_cons_zero, List.set_cons_succ]
  have hq := HQQ.out
  unfold wpHead wpMeet
  refine ⟨?_, ?_⟩
  rotate_left
  · intro f wr hb hR
    obtain ⟨A, c, ef, hown⟩ := hR
    have HOWN := Lib.hid hown
    have HB := Lib.hid hb
    clear hown hb
    unfold wpRest
    simp only [puts, Act.put, List.map_nil, List.map_cons, List.getElem?_toArray, List.getElem?_cons_succ, List.getElem?_cons_zero, List.setIfInBounds_toArray, List.set_cons_zero, List.set_cons_succ, ef]
    refine wpHead_early rfl (fun K hK => ?_)
    go_simp
    refine hK _ ?_
    clear hK K
    unfold wpHead
    clear ef
    go_wp2_with fail
    go_ret
    exact ⟨A, c, rfl, Joins.ownsRow_le HOWN.out hs1, HB1.out.trans (HB.out.mono hs1)⟩
  refine ⟨?_, ?_⟩
  · skip
    have b0 : Below w1.heap.size w1 w1.drew := (Below.refl _ _).drew
    have rp : Rd w1.drew A1 (bs [p0, p1, p2, p3]) := RP.out
    refine wpTr_turn (v := .slice (some ⟨w1.drew.heap.size, 0, none⟩) 12 12) (w' := w1.drew.alloc (.cells (bs (List.replicate 12 0)).toArray 5)) rfl rfl (by first | (go_simp; done) | (go_simp; rw [hmk]; rfl)) (b0.alloc b0.size (.cells (bs (List.replicate 12 0)).toArray 5)) ?_
    simp only [Act.put, List.getElem_toArray, List.getElem_cons_succ, List.getElem_cons_zero, List.setIfInBounds_toArray, List.set_cons_zero, List.set_cons_succ]
    replace rp := rp.alloc (.cells (bs (List.replicate 12 0)).toArray 5)
    have rm : Rd (w1.drew.alloc (.cells (bs (List.replicate 12 0)).toArray 5)) (some ⟨w1.drew.heap.size, 0, none⟩) (bs (List.replicate 12 0)) := (Blk.new w1.drew 5 (bs (List.replicate 12 0))).rdAll
    have b1 := b0.alloc b0.size (.cells (bs (List.replicate 12 0)).toArray 5)
    refine wpTr_turn (v := .slice (some ⟨(w1.drew.alloc (.cells (bs (List.replicate 12 0)).toArray 5)).heap.size, 0, none⟩) 1 1) (w' := (w1.drew.alloc (.cells (bs (List.replicate 12 0)).toArray 5)).alloc (.cells #[.slice A1 4 c1] 41)) rfl rfl (by go_simp) (b1.alloc b1.size (.cells #[.slice A1 4 c1] 41)) ?_
    simp only [Act.put, List.getElem_toArray, List.getElem_cons_succ, List.getElem_cons_zero, List.setIfInBounds_toArray, List.set_cons_zero, List.set_cons_succ]
    replace rp := rp.alloc (.cells #[.slice A1 4 c1] 41)
    replace rm := rm.alloc (.cells #[.slice A1 4 c1] 41)
    have r1 : Rd ((w1.drew.alloc (.cells (bs (List.replicate 12 0)).toArray 5)).alloc (.cells #[.slice A1 4 c1] 41)) (some ⟨(w1.drew.alloc (.cells (bs (List.replicate 12 0)).toArray 5)).heap.size, 0, none⟩) [.slice A1 4 c1] := (Blk.new (w1.drew.alloc (.cells (bs (List.replicate 12 0)).toArray 5)) 41 [.slice A1 4 c1]).rdAll
    have b2 := b1.alloc b1.size (.cells #[.slice A1 4 c1] 41)
    refine wpTr_call (f := 82) rfl rfl (by exact exec_enter (xl := [.tmp 10]) rfl rfl Try.func82 rfl rfl _) (sum_calls (some ⟨(w1.drew.alloc (.cells (bs (List.replicate 12 0)).toArray 5)).heap.size, 0, none⟩) 1 1 [⟨A1, c1, [p0, p1, p2, p3]⟩] ((w1.drew.alloc (.cells (bs (List.replicate 12 0)).toArray 5)).alloc (.cells #[.slice A1 4 c1] 41)) rfl r1 (fun p hp => by obtain rfl := List.mem_singleton.1 hp; exact ⟨rp, by show (4 : Nat) ≤ 140737488351232; decide⟩) (by decide)) ?_
    rintro e W' ⟨rfl, rfl⟩
    refine ⟨_, rfl, b2, ?_⟩
    simp only [Act.put, List.getElem_toArray, List.getElem_cons_succ, List.getElem_cons_zero, List.setIfInBounds_toArray, List.set_cons_zero, List.set_cons_succ]
    refine wpTr_call (f := 81) rfl rfl (by exact exec_enter (xl := [.tmp 11, .const (.int .i64 8)]) rfl rfl Try.func81 rfl rfl _) (put_at (sumB [p0, p1, p2, p3]) 8 _ _ _ rfl rfl (by decide)) ?_
    rintro e wQ ⟨vQ, rfl, hQ, hbQ⟩
    obtain ⟨AQ, cQ, rfl⟩ := own_slice hQ
    have b4 := b2.trans (hbQ.mono b2.size)
    refine ⟨_, rfl, b4, ?_⟩
    simp only [Act.put, List.getElem_toArray, List.getElem_cons_succ, List.getElem_cons_zero, List.setIfInBounds_toArray, List.set_cons_zero, List.set_cons_succ]
    replace rp := rp.below hbQ
    replace rm := rm.below hbQ
    replace r1 := r1.below hbQ
    have rq : Rd wQ AQ (bs (putB (sumB [p0, p1, p2, p3]) 8)) := .of_own hQ
    rw [hq] at rq
    refine wpTr_turn (v := .slice (some ⟨wQ.heap.size, 0, none⟩) 3 3) (w' := wQ.alloc (.cells #[.slice (some ⟨w1.drew.heap.size, 0, none⟩) 12 12, .slice A1 4 c1, .slice AQ 8 cQ] 41)) rfl rfl (by go_simp) (b4.alloc b4.size (.cells #[.slice (some ⟨w1.drew.heap.size, 0, none⟩) 12 12, .slice A1 4 c1, .slice AQ 8 cQ] 41)) ?_
    simp only [Act.put, List.getElem_toArray, List.getElem_cons_succ, List.getElem_cons_zero, List.setIfInBounds_toArray, List.set_cons_zero, List.set_cons_succ]
    replace rp := rp.alloc (.cells #[.slice (some ⟨w1.drew.heap.size, 0, none⟩) 12 12, .slice A1 4 c1, .slice AQ 8 cQ] 41)
    replace rm := rm.alloc (.cells #[.slice (some ⟨w1.drew.heap.size, 0, none⟩) 12 12, .slice A1 4 c1, .slice AQ 8 cQ] 41)
    replace r1 := r1.alloc (.cells #[.slice (some ⟨w1.drew.heap.size, 0, none⟩) 12 12, .slice A1 4 c1, .slice AQ 8 cQ] 41)
    replace rq := rq.alloc (.cells #[.slice (some ⟨w1.drew.heap.size, 0, none⟩) 12 12, .slice A1 4 c1, .slice AQ 8 cQ] 41)
    have r3 : Rd (wQ.alloc (.cells #[.slice (some ⟨w1.drew.heap.size, 0, none⟩) 12 12, .slice A1 4 c1, .slice AQ 8 cQ] 41)) (some ⟨wQ.heap.size, 0, none⟩) [.slice (some ⟨w1.drew.heap.size, 0, none⟩) 12 12, .slice A1 4 c1, .slice AQ 8 cQ] := (Blk.new wQ 41 [.slice (some ⟨w1.drew.heap.size, 0, none⟩) 12 12, .slice A1 4 c1, .slice AQ 8 cQ]).rdAll
    have b5 := b4.alloc b4.size (.cells #[.slice (some ⟨w1.drew.heap.size, 0, none⟩) 12 12, .slice A1 4 c1, .slice AQ 8 cQ] 41)
    refine wpTr_call (f := 95) rfl rfl (by exact exec_enter (xl := [.tmp 13]) rfl rfl Try.func95 rfl rfl _) (concat_calls (some ⟨wQ.heap.size, 0, none⟩) 3 3 [⟨some ⟨w1.drew.heap.size, 0, none⟩, 12, List.replicate 12 0⟩, ⟨A1, c1, [p0, p1, p2, p3]⟩, ⟨AQ, cQ, [q0, q1, q2, q3, q4, q5, q6, q7]⟩] (wQ.alloc (.cells #[.slice (some ⟨w1.drew.heap.size, 0, none⟩) 12 12, .slice A1 4 c1, .slice AQ 8 cQ] 41)) rfl r3 (fun p hp => by simp only [List.mem_cons, List.mem_nil_iff, or_false] at hp; rcases hp with rfl | rfl | rfl <;> assumption) (by decide) (fun k => Nat.le_trans (join_le _ k) (by show (24 : Nat) ≤ 60000; decide))) ?_
    rintro e wF ⟨vF, rfl, hF, hbF⟩
    have b6 := b5.trans (hbF.mono b5.size)
    refine ⟨_, rfl, b6, ?_⟩
    unfold wpTr
    have hF : wF.ownsRow (wQ.alloc (.cells #[.slice (some ⟨w1.drew.heap.size, 0, none⟩) 12 12, .slice A1 4 c1, .slice AQ 8 cQ] 41)).heap.size 5 1 vF 24 (bs (recB n)) := by rw [HREC.out]; exact hF
    obtain ⟨AF, cF, rfl⟩ := own_slice hF
    exact ⟨b6, (fun | 0 => .slice (some ⟨w1.drew.heap.size, 0, none⟩) 12 12 | 3 => .slice (some ⟨(w1.drew.alloc (.cells (bs (List.replicate 12 0)).toArray 5)).heap.size, 0, none⟩) 1 1 | 4 => .int .u64 ((sumB [p0, p1, p2, p3] : Nat) : Int) | 5 => .slice AQ 8 cQ | 6 => .slice (some ⟨wQ.heap.size, 0, none⟩) 3 3 | 7 => .slice AF 24 cF | _ => undef), rfl, AF, cF, rfl, Joins.ownsRow_le hF b5.size⟩
  · skip
    have b0 : Below w1.heap.size w1 w1.drew := (Below.refl _ _).drew
    have rp : Rd w1.drew A1 (bs [p0, p1, p2, p3]) := RP.out
    refine wpTr_turn (v := .slice (some ⟨w1.drew.heap.size, 0, none⟩) 1 1) (w' := w1.drew.alloc (.cells #[.slice A1 4 c1] 41)) rfl rfl (by go_simp) (b0.alloc b0.size (.cells #[.slice A1 4 c1] 41)) ?_
    simp only [Act.put, List.getElem_toArray, List.getElem_cons_succ, List.getElem_cons_zero, List.setIfInBounds_toArray, List.set_cons_zero, List.set_cons_succ]
    replace rp := rp.alloc (.cells #[.slice A1 4 c1] 41)
    have r1 : Rd (w1.drew.alloc (.cells #[.slice A1 4 c1] 41)) (some ⟨w1.drew.heap.size, 0, none⟩) [.slice A1 4 c1] := (Blk.new w1.drew 41 [.slice A1 4 c1]).rdAll
    have b1 := b0.alloc b0.size (.cells #[.slice A1 4 c1] 41)
    refine ⟨?_, ?_⟩
    · skip
      refine wpTr_turn (v := .slice (some ⟨(w1.drew.alloc (.cells #[.slice A1 4 c1] 41)).heap.size, 0, none⟩) 12 12) (w' := (w1.drew.alloc (.cells #[.slice A1 4 c1] 41)).alloc (.cells (bs (List.replicate 12 0)).toArray 5)) rfl rfl (by first | (go_simp; done) | (go_simp; rw [hmk]; rfl)) (b1.alloc b1.size (.cells (bs (List.replicate 12 0)).toArray 5)) ?_
      simp only [Act.put, List.getElem_toArray, List.getElem_cons_succ, List.getElem_cons_zero, List.setIfInBounds_toArray, List.set_cons_zero, List.set_cons_succ]
      replace rp := rp.alloc (.cells (bs (List.replicate 12 0)).toArray 5)
      replace r1 := r1.alloc (.cells (bs (List.replicate 12 0)).toArray 5)
      have rm : Rd ((w1.drew.alloc (.cells #[.slice A1 4 c1] 41)).alloc (.cells (bs (List.replicate 12 0)).toArray 5)) (some ⟨(w1.drew.alloc (.cells #[.slice A1 4 c1] 41)).heap.size, 0, none⟩) (bs (List.replicate 12 0)) := (Blk.new (w1.drew.alloc (.cells #[.slice A1 4 c1] 41)) 5 (bs (List.replicate 12 0))).rdAll
      have b2 := b1.alloc b1.size (.cells (bs (List.replicate 12 0)).toArray 5)
      refine wpTr_call (f := 82) rfl rfl (by exact exec_enter (xl := [.tmp 10]) rfl rfl Try.func82 rfl rfl _) (sum_calls (some ⟨w1.drew.heap.size, 0, none⟩) 1 1 [⟨A1, c1, [p0, p1, p2, p3]⟩] ((w1.drew.alloc (.cells #[.slice A1 4 c1] 41)).alloc (.cells (bs (List.replicate 12 0)).toArray 5)) rfl r1 (fun p hp => by obtain rfl := List.mem_singleton.1 hp; exact ⟨rp, by show (4 : Nat) ≤ 140737488351232; decide⟩) (by decide)) ?_
      rintro e W' ⟨rfl, rfl⟩
      refine ⟨_, rfl, b2, ?_⟩
      simp only [Act.put, List.getElem_toArray, List.getElem_cons_succ, List.getElem_cons_zero, List.setIfInBounds_toArray, List.set_cons_zero, List.set_cons_succ]
      refine wpTr_call (f := 81) rfl rfl (by exact exec_enter (xl := [.tmp 11, .const (.int .i64 8)]) rfl rfl Try.func81 rfl rfl _) (put_at (sumB [p0, p1, p2, p3]) 8 _ _ _ rfl rfl (by decide)) ?_
      rintro e wQ ⟨vQ, rfl, hQ, hbQ⟩
      obtain ⟨AQ, cQ, rfl⟩ := own_slice hQ
      have b4 := b2.trans (hbQ.mono b2.size)
      refine ⟨_, rfl, b4, ?_⟩
      simp only [Act.put, List.getElem_toArray, List.getElem_cons_succ, List.getElem_cons_zero, List.setIfInBounds_toArray, List.set_cons_zero, List.set_cons_succ]
      replace rp := rp.below hbQ
      replace r1 := r1.below hbQ
      replace rm := rm.below hbQ
      have rq : Rd wQ AQ (bs (putB (sumB [p0, p1, p2, p3]) 8)) := .of_own hQ
      rw [hq] at rq
      refine wpTr_turn (v := .slice (some ⟨wQ.heap.size, 0, none⟩) 3 3) (w' := wQ.alloc (.cells #[.slice (some ⟨(w1.drew.alloc (.cells #[.slice A1 4 c1] 41)).heap.size, 0, none⟩) 12 12, .slice A1 4 c1, .slice AQ 8 cQ] 41)) rfl rfl (by go_simp) (b4.alloc b4.size (.cells #[.slice (some ⟨(w1.drew.alloc (.cells #[.slice A1 4 c1] 41)).heap.size, 0, none⟩) 12 12, .slice A1 4 c1, .slice AQ 8 cQ] 41)) ?_
      simp only [Act.put, List.getElem_toArray, List.getElem_cons_succ, List.getElem_cons_zero, List.setIfInBounds_toArray, List.set_cons_zero, List.set_cons_succ]
      replace rp := rp.alloc (.cells #[.slice (some ⟨(w1.drew.alloc (.cells #[.slice A1 4 c1] 41)).heap.size, 0, none⟩) 12 12, .slice A1 4 c1, .slice AQ 8 cQ] 41)
      replace r1 := r1.alloc (.cells #[.slice (some ⟨(w1.drew.alloc (.cells #[.slice A1 4 c1] 41)).heap.size, 0, none⟩) 12 12, .slice A1 4 c1, .slice AQ 8 cQ] 41)
      replace rm := rm.alloc (.cells #[.slice (some ⟨(w1.drew.alloc (.cells #[.slice A1 4 c1] 41)).heap.size, 0, none⟩) 12 12, .slice A1 4 c1, .slice AQ 8 cQ] 41)
      replace rq := rq.alloc (.cells #[.slice (some ⟨(w1.drew.alloc (.cells #[.slice A1 4 c1] 41)).heap.size, 0, none⟩) 12 12, .slice A1 4 c1, .slice AQ 8 cQ] 41)
      have r3 : Rd (wQ.alloc (.cells #[.slice (some ⟨(w1.drew.alloc (.cells #[.slice A1 4 c1] 41)).heap.size, 0, none⟩) 12 12, .slice A1 4 c1, .slice AQ 8 cQ] 41)) (some ⟨wQ.heap.size, 0, none⟩) [.slice (some ⟨(w1.drew.alloc (.cells #[.slice A1 4 c1] 41)).heap.size, 0, none⟩) 12 12, .slice A1 4 c1, .slice AQ 8 cQ] := (Blk.new wQ 41 [.slice (some ⟨(w1.drew.alloc (.cells #[.slice A1 4 c1] 41)).heap.size, 0, none⟩) 12 12, .slice A1 4 c1, .slice AQ 8 cQ]).rdAll
      have b5 := b4.alloc b4.size (.cells #[.slice (some ⟨(w1.drew.alloc (.cells #[.slice A1 4 c1] 41)).heap.size, 0, none⟩) 12 12, .slice A1 4 c1, .slice AQ 8 cQ] 41)
      refine wpTr_call (f := 95) rfl rfl (by exact exec_enter (xl := [.tmp 13]) rfl rfl Try.func95 rfl rfl _) (concat_calls (some ⟨wQ.heap.size, 0, none⟩) 3 3 [⟨some ⟨(w1.drew.alloc (.cells #[.slice A1 4 c1] 41)).heap.size, 0, none⟩, 12, List.replicate 12 0⟩, ⟨A1, c1, [p0, p1, p2, p3]⟩, ⟨AQ, cQ, [q0, q1, q2, q3, q4, q5, q6, q7]⟩] (wQ.alloc (.cells #[.slice (some ⟨(w1.drew.alloc (.cells #[.slice A1 4 c1] 41)).heap.size, 0, none⟩) 12 12, .slice A1 4 c1, .slice AQ 8 cQ] 41)) rfl r3 (fun p hp => by simp only [List.mem_cons, List.mem_nil_iff, or_false] at hp; rcases hp with rfl | rfl | rfl <;> assumption) (by decide) (fun k => Nat.le_trans (join_le _ k) (by show (24 : Nat) ≤ 60000; decide))) ?_
      rintro e wF ⟨vF, rfl, hF, hbF⟩
      have b6 := b5.trans (hbF.mono b5.size)
      refine ⟨_, rfl, b6, ?_⟩
      unfold wpTr
      have hF : wF.ownsRow (wQ.alloc (.cells #[.slice (some ⟨(w1.drew.alloc (.cells #[.slice A1 4 c1] 41)).heap.size, 0, none⟩) 12 12, .slice A1 4 c1, .slice AQ 8 cQ] 41)).heap.size 5 1 vF 24 (bs (recB n)) := by rw [HREC.out]; exact hF
      obtain ⟨AF, cF, rfl⟩ := own_slice hF
      exact ⟨b6, (fun | 0 => .slice (some ⟨(w1.drew.alloc (.cells #[.slice A1 4 c1] 41)).heap.size, 0, none⟩) 12 12 | 3 => .slice (some ⟨w1.drew.heap.size, 0, none⟩) 1 1 | 4 => .int .u64 ((sumB [p0, p1, p2, p3] : Nat) : Int) | 5 => .slice AQ 8 cQ | 6 => .slice (some ⟨wQ.heap.size, 0, none⟩) 3 3 | 7 => .slice AF 24 cF | _ => undef), rfl, AF, cF, rfl, Joins.ownsRow_le hF b5.size⟩
    · skip
      refine wpTr_call (f := 82) rfl rfl (by exact exec_enter (xl := [.tmp 10]) rfl rfl Try.func82 rfl rfl _) (sum_calls (some ⟨w1.drew.heap.size, 0, none⟩) 1 1 [⟨A1, c1, [p0, p1, p2, p3]⟩] (w1.drew.alloc (.cells #[.slice A1 4 c1] 41)) rfl r1 (fun p hp => by obtain rfl := List.mem_singleton.1 hp; exact ⟨rp, by show (4 : Nat) ≤ 140737488351232; decide⟩) (by decide)) ?_
      rintro e W' ⟨rfl, rfl⟩
      refine ⟨_, rfl, b1, ?_⟩
      simp only [Act.put, List.getElem_toArray, List.getElem_cons_succ, List.getElem_cons_zero, List.setIfInBounds_toArray, List.set_cons_zero, List.set_cons_succ]
      refine ⟨?_, ?_⟩
      · skip
        refine wpTr_turn (v := .slice (some ⟨(w1.drew.alloc (.cells #[.slice A1 4 c1] 41)).heap.size, 0, none⟩) 12 12) (w' := (w1.drew.alloc (.cells #[.slice A1 4 c1] 41)).alloc (.cells (bs (List.replicate 12 0)).toArray 5)) rfl rfl (by first | (go_simp; done) | (go_simp; rw [hmk]; rfl)) (b1.alloc b1.size (.cells (bs (List.replicate 12 0)).toArray 5)) ?_
        simp only [Act.put, List.getElem_toArray, List.getElem_cons_succ, List.getElem_cons_zero, List.setIfInBounds_toArray, List.set_cons_zero, List.set_cons_succ]
        replace rp := rp.alloc (.cells (bs (List.replicate 12 0)).toArray 5)
        replace r1 := r1.alloc (.cells (bs (List.replicate 12 0)).toArray 5)
        have rm : Rd ((w1.drew.alloc (.cells #[.slice A1 4 c1] 41)).alloc (.cells (bs (List.replicate 12 0)).toArray 5)) (some ⟨(w1.drew.alloc (.cells #[.slice A1 4 c1] 41)).heap.size, 0, none⟩) (bs (List.replicate 12 0)) := (Blk.new (w1.drew.alloc (.cells #[.slice A1 4 c1] 41)) 5 (bs (List.replicate 12 0))).rdAll
        have b3 := b1.alloc b1.size (.cells (bs (List.replicate 12 0)).toArray 5)
        refine wpTr_call (f := 81) rfl rfl (by exact exec_enter (xl := [.tmp 11, .const (.int .i64 8)]) rfl rfl Try.func81 rfl rfl _) (put_at (sumB [p0, p1, p2, p3]) 8 _ _ _ rfl rfl (by decide)) ?_
        rintro e wQ ⟨vQ, rfl, hQ, hbQ⟩
        obtain ⟨AQ, cQ, rfl⟩ := own_slice hQ
        have b4 := b3.trans (hbQ.mono b3.size)
        refine ⟨_, rfl, b4, ?_⟩
        simp only [Act.put, List.getElem_toArray, List.getElem_cons_succ, List.getElem_cons_zero, List.setIfInBounds_toArray, List.set_cons_zero, List.set_cons_succ]
        replace rp := rp.below hbQ
        replace r1 := r1.below hbQ
        replace rm := rm.below hbQ
        have rq : Rd wQ AQ (bs (putB (sumB [p0, p1, p2, p3]) 8)) := .of_own hQ
        rw [hq] at rq
        refine wpTr_turn (v := .slice (some ⟨wQ.heap.size, 0, none⟩) 3 3) (w' := wQ.alloc (.cells #[.slice (some ⟨(w1.drew.alloc (.cells #[.slice A1 4 c1] 41)).heap.size, 0, none⟩) 12 12, .slice A1 4 c1, .slice AQ 8 cQ] 41)) rfl rfl (by go_simp) (b4.alloc b4.size (.cells #[.slice (some ⟨(w1.drew.alloc (.cells #[.slice A1 4 c1] 41)).heap.size, 0, none⟩) 12 12, .slice A1 4 c1, .slice AQ 8 cQ] 41)) ?_
        simp only [Act.put, List.getElem_toArray, List.getElem_cons_succ, List.getElem_cons_zero, List.setIfInBounds_toArray, List.set_cons_zero, List.set_cons_succ]
        replace rp := rp.alloc (.cells #[.slice (some ⟨(w1.drew.alloc (.cells #[.slice A1 4 c1] 41)).heap.size, 0, none⟩) 12 12, .slice A1 4 c1, .slice AQ 8 cQ] 41)
        replace r1 := r1.alloc (.cells #[.slice (some ⟨(w1.drew.alloc (.cells #[.slice A1 4 c1] 41)).heap.size, 0, none⟩) 12 12, .slice A1 4 c1, .slice AQ 8 cQ] 41)
        replace rm := rm.alloc (.cells #[.slice (some ⟨(w1.drew.alloc (.cells #[.slice A1 4 c1] 41)).heap.size, 0, none⟩) 12 12, .slice A1 4 c1, .slice AQ 8 cQ] 41)
        replace rq := rq.alloc (.cells #[.slice (some ⟨(w1.drew.alloc (.cells #[.slice A1 4 c1] 41)).heap.size, 0, none⟩) 12 12, .slice A1 4 c1, .slice AQ 8 cQ] 41)
        have r3 : Rd (wQ.alloc (.cells #[.slice (some ⟨(w1.drew.alloc (.cells #[.slice A1 4 c1] 41)).heap.size, 0, none⟩) 12 12, .slice A1 4 c1, .slice AQ 8 cQ] 41)) (some ⟨wQ.heap.size, 0, none⟩) [.slice (some ⟨(w1.drew.alloc (.cells #[.slice A1 4 c1] 41)).heap.size, 0, none⟩) 12 12, .slice A1 4 c1, .slice AQ 8 cQ] := (Blk.new wQ 41 [.slice (some ⟨(w1.drew.alloc (.cells #[.slice A1 4 c1] 41)).heap.size, 0, none⟩) 12 12, .slice A1 4 c1, .slice AQ 8 cQ]).rdAll
        have b5 := b4.alloc b4.size (.cells #[.slice (some ⟨(w1.drew.alloc (.cells #[.slice A1 4 c1] 41)).heap.size, 0, none⟩) 12 12, .slice A1 4 c1, .slice AQ 8 cQ] 41)
        refine wpTr_call (f := 95) rfl rfl (by exact exec_enter (xl := [.tmp 13]) rfl rfl Try.func95 rfl rfl _) (concat_calls (some ⟨wQ.heap.size, 0, none⟩) 3 3 [⟨some ⟨(w1.drew.alloc (.cells #[.slice A1 4 c1] 41)).heap.size, 0, none⟩, 12, List.replicate 12 0⟩, ⟨A1, c1, [p0, p1, p2, p3]⟩, ⟨AQ, cQ, [q0, q1, q2, q3, q4, q5, q6, q7]⟩] (wQ.alloc (.cells #[.slice (some ⟨(w1.drew.alloc (.cells #[.slice A1 4 c1] 41)).heap.size, 0, none⟩) 12 12, .slice A1 4 c1, .slice AQ 8 cQ] 41)) rfl r3 (fun p hp => by simp only [List.mem_cons, List.mem_nil_iff, or_false] at hp; rcases hp with rfl | rfl | rfl <;> assumption) (by decide) (fun k => Nat.le_trans (join_le _ k) (by show (24 : Nat) ≤ 60000; decide))) ?_
        rintro e wF ⟨vF, rfl, hF, hbF⟩
        have b6 := b5.trans (hbF.mono b5.size)
        refine ⟨_, rfl, b6, ?_⟩
        unfold wpTr
        have hF : wF.ownsRow (wQ.alloc (.cells #[.slice (some ⟨(w1.drew.alloc (.cells #[.slice A1 4 c1] 41)).heap.size, 0, none⟩) 12 12, .slice A1 4 c1, .slice AQ 8 cQ] 41)).heap.size 5 1 vF 24 (bs (recB n)) := by rw [HREC.out]; exact hF
        obtain ⟨AF, cF, rfl⟩ := own_slice hF
        exact ⟨b6, (fun | 0 => .slice (some ⟨(w1.drew.alloc (.cells #[.slice A1 4 c1] 41)).heap.size, 0, none⟩) 12 12 | 3 => .slice (some ⟨w1.drew.heap.size, 0, none⟩) 1 1 | 4 => .int .u64 ((sumB [p0, p1, p2, p3] : Nat) : Int) | 5 => .slice AQ 8 cQ | 6 => .slice (some ⟨wQ.heap.size, 0, none⟩) 3 3 | 7 => .slice AF 24 cF | _ => undef), rfl, AF, cF, rfl, Joins.ownsRow_le hF b5.size⟩
      · skip
        refine wpTr_call (f := 81) rfl rfl (by exact exec_enter (xl := [.tmp 11, .const (.int .i64 8)]) rfl rfl Try.func81 rfl rfl _) (put_at (sumB [p0, p1, p2, p3]) 8 _ _ _ rfl rfl (by decide)) ?_
        rintro e wQ ⟨vQ, rfl, hQ, hbQ⟩
        obtain ⟨AQ, cQ, rfl⟩ := own_slice hQ
        have b3 := b1.trans (hbQ.mono b1.size)
        refine ⟨_, rfl, b3, ?_⟩
        simp only [Act.put, List.getElem_toArray, List.getElem_cons_succ, List.getElem_cons_zero, List.setIfInBounds_toArray, List.set_cons_zero, List.set_cons_succ]
        replace rp := rp.below hbQ
        replace r1 := r1.below hbQ
        have rq : Rd wQ AQ (bs (putB (sumB [p0, p1, p2, p3]) 8)) := .of_own hQ
        rw [hq] at rq
        refine wpTr_turn (v := .slice (some ⟨wQ.heap.size, 0, none⟩) 12 12) (w' := wQ.alloc (.cells (bs (List.replicate 12 0)).toArray 5)) rfl rfl (by first | (go_simp; done) | (go_simp; rw [hmk]; rfl)) (b3.alloc b3.size (.cells (bs (List.replicate 12 0)).toArray 5)) ?_
        simp only [Act.put, List.getElem_toArray, List.getElem_cons_succ, List.getElem_cons_zero, List.setIfInBounds_toArray, List.set_cons_zero, List.set_cons_succ]
        replace rp := rp.alloc (.cells (bs (List.replicate 12 0)).toArray 5)
        replace r1 := r1.alloc (.cells (bs (List.replicate 12 0)).toArray 5)
        replace rq := rq.alloc (.cells (bs (List.replicate 12 0)).toArray 5)
        have rm : Rd (wQ.alloc (.cells (bs (List.replicate 12 0)).toArray 5)) (some ⟨wQ.heap.size, 0, none⟩) (bs (List.replicate 12 0)) := (Blk.new wQ 5 (bs (List.replicate 12 0))).rdAll
        have b4 := b3.alloc b3.size (.cells (bs (List.replicate 12 0)).toArray 5)
        refine wpTr_turn (v := .slice (some ⟨(wQ.alloc (.cells (bs (List.replicate 12 0)).toArray 5)).heap.size, 0, none⟩) 3 3) (w' := (wQ.alloc (.cells (bs (List.replicate 12 0)).toArray 5)).alloc (.cells #[.slice (some ⟨wQ.heap.size, 0, none⟩) 12 12, .slice A1 4 c1, .slice AQ 8 cQ] 41)) rfl rfl (by go_simp) (b4.alloc b4.size (.cells #[.slice (some ⟨wQ.heap.size, 0, none⟩) 12 12, .slice A1 4 c1, .slice AQ 8 cQ] 41)) ?_
        simp only [Act.put, List.getElem_toArray, List.getElem_cons_succ, List.getElem_cons_zero, List.setIfInBounds_toArray, List.set_cons_zero, List.set_cons_succ]
        replace rp := rp.alloc (.cells #[.slice (some ⟨wQ.heap.size, 0, none⟩) 12 12, .slice A1 4 c1, .slice AQ 8 cQ] 41)
        replace r1 := r1.alloc (.cells #[.slice (some ⟨wQ.heap.size, 0, none⟩) 12 12, .slice A1 4 c1, .slice AQ 8 cQ] 41)
        replace rq := rq.alloc (.cells #[.slice (some ⟨wQ.heap.size, 0, none⟩) 12 12, .slice A1 4 c1, .slice AQ 8 cQ] 41)
        replace rm := rm.alloc (.cells #[.slice (some ⟨wQ.heap.size, 0, none⟩) 12 12, .slice A1 4 c1, .slice AQ 8 cQ] 41)
        have r3 : Rd ((wQ.alloc (.cells (bs (List.replicate 12 0)).toArray 5)).alloc (.cells #[.slice (some ⟨wQ.heap.size, 0, none⟩) 12 12, .slice A1 4 c1, .slice AQ 8 cQ] 41)) (some ⟨(wQ.alloc (.cells (bs (List.replicate 12 0)).toArray 5)).heap.size, 0, none⟩) [.slice (some ⟨wQ.heap.size, 0, none⟩) 12 12, .slice A1 4 c1, .slice AQ 8 cQ] := (Blk.new (wQ.alloc (.cells (bs (List.replicate 12 0)).toArray 5)) 41 [.slice (some ⟨wQ.heap.size, 0, none⟩) 12 12, .slice A1 4 c1, .slice AQ 8 cQ]).rdAll
        have b5 := b4.alloc b4.size (.cells #[.slice (some ⟨wQ.heap.size, 0, none⟩) 12 12, .slice A1 4 c1, .slice AQ 8 cQ] 41)
        refine wpTr_call (f := 95) rfl rfl (by exact exec_enter (xl := [.tmp 13]) rfl rfl Try.func95 rfl rfl _) (concat_calls (some ⟨(wQ.alloc (.cells (bs (List.replicate 12 0)).toArray 5)).heap.size, 0, none⟩) 3 3 [⟨some ⟨wQ.heap.size, 0, none⟩, 12, List.replicate 12 0⟩, ⟨A1, c1, [p0, p1, p2, p3]⟩, ⟨AQ, cQ, [q0, q1, q2, q3, q4, q5, q6, q7]⟩] ((wQ.alloc (.cells (bs (List.replicate 12 0)).toArray 5)).alloc (.cells #[.slice (some ⟨wQ.heap.size, 0, none⟩) 12 12, .slice A1 4 c1, .slice AQ 8 cQ] 41)) rfl r3 (fun p hp => by simp only [List.mem_cons, List.mem_nil_iff, or_false] at hp; rcases hp with rfl | rfl | rfl <;> assumption) (by decide) (fun k => Nat.le_trans (join_le _ k) (by show (24 : Nat) ≤ 60000; decide))) ?_
        rintro e wF ⟨vF, rfl, hF, hbF⟩
        have b6 := b5.trans (hbF.mono b5.size)
        refine ⟨_, rfl, b6, ?_⟩
        unfold wpTr
        have hF : wF.ownsRow ((wQ.alloc (.cells (bs (List.replicate 12 0)).toArray 5)).alloc (.cells #[.slice (some ⟨wQ.heap.size, 0, none⟩) 12 12, .slice A1 4 c1, .slice AQ 8 cQ] 41)).heap.size 5 1 vF 24 (bs (recB n)) := by rw [HREC.out]; exact hF
        obtain ⟨AF, cF, rfl⟩ := own_slice hF
        exact ⟨b6, (fun | 0 => .slice (some ⟨wQ.heap.size, 0, none⟩) 12 12 | 3 => .slice (some ⟨w1.drew.heap.size, 0, none⟩) 1 1 | 4 => .int .u64 ((sumB [p0, p1, p2, p3] : Nat) : Int) | 5 => .slice AQ 8 cQ | 6 => .slice (some ⟨(wQ.alloc (.cells (bs (List.replicate 12 0)).toArray 5)).heap.size, 0, none⟩) 3 3 | 7 => .slice AF 24 cF | _ => undef), rfl, AF, cF, rfl, Joins.ownsRow_le hF b5.size⟩
end Go.Proofs.Ytbdnoiaglighhaa
