/- The walk of the reference's Head. No statement is proved here. -/
import Derived.Test.YtbdnoiaglighhaaHead
import Derived.Test.YtbdnoiaglighhaaMixA
namespace Go.Proofs.Ytbdnoiaglighhaa
set_option linter.unusedVariables false
set_option linter.unusedSimpArgs false
open Go.RowKit

set_option maxHeartbeats 1000000 in
set_option maxRecDepth 100000 in
theorem rhead_calls (boot seq : Nat) (hb : boot < 4294967296) (w : World) :
    Calls Try.prog 39 #[.int .u32 (boot : Int), .int .u64 (seq : Int)] w fun e w' => e = .returned (.agg (bs (hdB boot seq)).toArray) ∧ Below w.heap.size w w' := by
  have b0 : Blk ((w.alloc (.cells noughts12.toArray 48)).alloc (.cells noughts12.toArray 48)) w.heap.size 48 noughts12 := (Blk.new w 48 noughts12).alloc _
  have b1 : Blk ((w.alloc (.cells noughts12.toArray 48)).alloc (.cells noughts12.toArray 48)) (w.heap.size + 1) 48 noughts12 := by
    have := Blk.new (w.alloc (.cells noughts12.toArray 48)) 48 noughts12
    rwa [World.size_alloc] at this
  have hbel : Below w.heap.size w ((w.alloc (.cells noughts12.toArray 48)).alloc (.cells noughts12.toArray 48)) := ((Below.refl _ _).alloc (Nat.le_refl _) _).alloc (by simp) _
  have B0 := Lib.hid b0
  have B1 := Lib.hid b1
  have HB := Lib.hid hbel
  clear b0 b1 hbel
  have hsl := arr48.all (w.heap.size + 1) 0
  have hs4 := arr48.l (w.heap.size + 1) 0 4 (L := 4) rfl (by decide)
  rw [Nat.zero_add] at hs4
  go_enter Try.func39, Try.ntmps39
  go_wp2_with fail
  try simp only [Act.put]
  refine wp_region_mix [(false, 0), (false, 1), (false, 2), (false, 4)] [3, 5, 6, 7] (by kernel_rfl) (by kernel_rfl) (fun _ => True) trivial ?_
  refine wpHead_late rfl (fun K hK => ⟨.slice (some ⟨w.heap.size + 1, 0, none⟩) 12 12, fun w' hC => ⟨rfl, ?_⟩, hK _ ?_⟩)
  · clear hK K
    go_simp
  clear hK K
  refine wpHead_late rfl (fun K hK => ⟨.int .u32 (boot : Int), fun w' hC => ⟨rfl, ?_⟩, hK _ ?_⟩)
  · clear hK K
    go_simp
  clear hK K
  refine wpHead_late rfl (fun K hK => ⟨.int .u64 (boot : Int), fun w' hC => ⟨rfl, ?_⟩, hK _ ?_⟩)
  · clear hK K
    go_simp
    rw [IntKind.wrap_u64]; omega
  clear hK K
  refine wpHead_late rfl (fun K hK => ⟨.int .u64 (seq : Int), fun w' hC => ⟨rfl, ?_⟩, hK _ ?_⟩)
  · clear hK K
    go_simp
  clear hK K
  refine wpStores_call (f := 92) rfl rfl (by exact exec_enter (xl := [.tmp 8, .const (.int .i64 4)]) rfl rfl Try.func92 rfl rfl _) (rput_at boot 4 _ _ _ rfl rfl (by decide)) ?_
  rintro e w1 ⟨v, rfl, hown, hb1⟩
  refine ⟨v, rfl, trivial, ?_⟩
  simp only [Act.put, List.getElem_toArray, List.getElem_cons_succ, List.getElem_cons_zero, List.setIfInBounds_toArray, List.set_cons_zero, List.set_cons_succ]
  have C0 := Lib.hid ((show Blk ((w.alloc (.cells noughts12.toArray 48)).alloc (.cells noughts12.toArray 48)).drew w.heap.size 48 noughts12 from B0.out).below hb1 B0.out.lt)
  have C1 := Lib.hid ((show Blk ((w.alloc (.cells noughts12.toArray 48)).alloc (.cells noughts12.toArray 48)).drew (w.heap.size + 1) 48 noughts12 from B1.out).below hb1 B1.out.lt)
  have CB := Lib.hid (HB.out.drew.trans (hb1.mono (show w.heap.size ≤ ((w.alloc (.cells noughts12.toArray 48)).alloc (.cells noughts12.toArray 48)).heap.size by simp; omega)))
  have HO := Lib.hid (Joins.ownsRow_le (base' := w.heap.size + 2) hown (by show w.heap.size + 2 ≤ ((w.alloc (.cells noughts12.toArray 48)).alloc (.cells noughts12.toArray 48)).heap.size; simp))
  clear hb1 B0 B1 HB hown
  refine wpStores_call (f := 92) rfl rfl (by exact exec_enter (xl := [.tmp 10, .const (.int .i64 8)]) rfl rfl Try.func92 rfl rfl _) (rput_at seq 8 _ _ _ rfl rfl (by decide)) ?_
  rintro e w2 ⟨v2, rfl, hown2, hb2⟩
  refine ⟨v2, rfl, trivial, ?_⟩
  obtain ⟨A2, c2, rfl⟩ := own_slice hown2
  simp only [Act.put, List.getElem_toArray, List.getElem_cons_succ, List.getElem_cons_zero, List.setIfInBounds_toArray, List.set_cons_zero, List.set_cons_succ]
  have D0 := Lib.hid (C0.out.below hb2 C0.out.lt)
  have D1 := Lib.hid (C1.out.below hb2 C1.out.lt)
  have DB := Lib.hid (CB.out.trans (hb2.mono CB.out.size))
  have DO := Lib.hid (own_below HO.out hb2)
  clear hb2 C0 C1 CB HO
  refine wpStores_appAny S41 rfl rfl (.tmp 9) (.tmp 11) rfl rfl rfl DO.out (.of_own hown2) (by rw [bs_length, putB_length]) (bs_one _) (by omega) (by unfold maxLen; omega) (by have := D1.out.lt; omega) ?_
  intro v3 w3 hown3 hg3 _
  refine ⟨trivial, ?_⟩
  obtain ⟨A3, c3, rfl⟩ := own_slice hown3
  simp only [Act.put, List.getElem_toArray, List.getElem_cons_succ, List.getElem_cons_zero, List.setIfInBounds_toArray, List.set_cons_zero, List.set_cons_succ]
  have hvb := DO.out.lt
  have E0 := Lib.hid (D0.out.grown hg3 (fun h => by have := (hvb _ h.symm).1; omega))
  have E1 := Lib.hid (D1.out.grown hg3 (fun h => by have := (hvb _ h.symm).1; omega))
  have EB := Lib.hid (DB.out.grown hg3 DB.out.size (fun j hj => by have := (hvb _ hj).1; omega))
  clear hg3 D0 D1 DB DO hvb hown2
  rw [← bs_append] at hown3
  refine wpStores_copy (news := bs (hdB boot seq)) rfl rfl (.tmp 6) (.tmp 12) 41 41 5 rfl Try.underlying41 info5 rfl rfl (.of_own hown3) (by rw [bs_length, hdB_length]; decide) (by rw [bs_length, hdB_length]) (by omega) E1.out (by rw [bs_length, hdB_length]; decide) (bs_one _) ?_
  intro w4 hP4 hg4
  refine ⟨trivial, ?_⟩
  rw [lay_all _ _ (by rw [bs_length, hdB_length]; rfl)] at hP4
  have F0 := Lib.hid (E0.out.grown hg4 (by simp))
  have FB := Lib.hid (EB.out.grown hg4 (by have := E0.out.lt; omega) (fun j hj => by cases hj; omega))
  have F1 := Lib.hid hP4
  clear hP4 hg4 E0 E1 EB hown3
  unfold wpStores
  simp only [Act.put, List.getElem_toArray, List.getElem_cons_succ, List.getElem_cons_zero, List.setIfInBounds_toArray, List.set_cons_zero, List.set_cons_succ]
  have hl12 : (bs (hdB boot seq)).length = 12 := by rw [bs_length, hdB_length]
  have h1c := bs_one (hdB boot seq)
  generalize hX : bs (hdB boot seq) = X at *
  have HX := Lib.hid hX
  have HLn := Lib.hid hl12
  have HOne := Lib.hid h1c
  clear hX hl12 h1c
  go_wp2_with (first
    | (refine wpList_getAll rfl 48 (.tmp 5) rfl rfl F1.out Try.underlying48 rfl info48 HLn.out ?_)
    | (refine wpList_putAll rfl 48 (.tmp 4) (.tmp 14) rfl (vs := X) rfl rfl F0.out info48 HLn.out rfl HOne.out ?_; intro w6 hB6 hg6; have H6 := Lib.hid hB6; clear hB6))
  have hbel := FB.out.grown hg6 FB.out.size (fun j hj => by cases hj; omega)
  refine bodyPost_ret (results_blk (cs := X) rfl _ rfl H6.out Try.underlying48 rfl (by rw [HLn.out]; exact info48)) rfl ⟨by rw [HX.out], hbel⟩
end Go.Proofs.Ytbdnoiaglighhaa
