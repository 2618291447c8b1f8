/- The walks of seal.Head and the reference's Head. No statement is proved here. -/
import Derived.Test.YtbdnoiaglighhaaRXor
namespace Go.Proofs.Ytbdnoiaglighhaa
set_option linter.unusedVariables false
set_option linter.unusedSimpArgs false
open Go.RowKit

/-- A block's first twelve bytes. -/
def hdB (boot seq : Nat) : List UInt8 := putB boot 4 ++ putB seq 8
theorem hdB_length (boot seq : Nat) : (hdB boot seq).length = 12 := by simp [hdB, putB_length]
def noughts12 : List Value := bs (List.replicate 12 0)

theorem lay_head (boot seq : Nat) : lay (lay noughts12 0 (bs (putB boot 4))) 4 (bs (putB seq 8)) = bs (hdB boot seq) := by
  have e1 : lay noughts12 0 (bs (putB boot 4)) = bs (putB boot 4) ++ bs (List.replicate 8 0) := by
    unfold lay
    rw [bs_length, putB_length]; rfl
  rw [e1]
  unfold lay hdB
  rw [List.take_left' (by rw [bs_length, putB_length]), bs_length, putB_length, List.drop_of_length_le (by simp [putB_length]), List.append_nil, bs_append]

set_option maxHeartbeats 1000000 in
set_option maxRecDepth 100000 in
theorem head_calls (boot seq : Nat) (hb : boot < 4294967296) (w : World) :
    Calls Try.prog 38 #[.int .u32 (boot : Int), .int .u64 (seq : Int)] w fun e w' => e = .returned (.agg (bs (hdB boot seq)).toArray) ∧ Below w.heap.size w w' := by
  have b0 : Blk ((w.alloc (.cells noughts12.toArray 48)).alloc (.cells noughts12.toArray 48)) w.heap.size 48 noughts12 := (Blk.new w 48 noughts12).alloc _
  have b1 : Blk ((w.alloc (.cells noughts12.toArray 48)).alloc (.cells noughts12.toArray 48)) (w.heap.size + 1) 48 noughts12 := by
    have := Blk.new (w.alloc (.cells noughts12.toArray 48)) 48 noughts12
    rwa [World.size_alloc] at this
  have hbel : Below w.heap.size w ((w.alloc (.cells noughts12.toArray 48)).alloc (.cells noughts12.toArray 48)) := ((Below.refl _ _).alloc (Nat.le_refl _) _).alloc (by simp) _
  have B0 := Lib.hid b0
  have B1 := Lib.hid b1
  have HB := Lib.hid hbel
  clear b0 b1 hbel
  have hsl := arr48.all (w.heap.size + 1) 0
  have hs4 := arr48.l (w.heap.size + 1) 0 4 (L := 4) rfl (by decide)
  rw [Nat.zero_add] at hs4
  go_enter Try.func38, Try.ntmps38
  go_wp2_with fail
  try simp only [Act.put]
  refine wp_region_mix [(false, 0), (false, 1), (false, 2)] [3, 4] (by kernel_rfl) (by kernel_rfl) (fun _ => True) trivial ?_
  refine wpHead_late rfl (fun K hK => ⟨.slice (some ⟨w.heap.size + 1, 0, none⟩) 12 12, fun w' hC => ⟨rfl, ?_⟩, hK _ ?_⟩)
  · clear hK K
    go_simp
  clear hK K
  refine wpHead_late rfl (fun K hK => ⟨.int .u32 (boot : Int), fun w' hC => ⟨rfl, ?_⟩, hK _ ?_⟩)
  · clear hK K
    go_simp
  clear hK K
  refine wpHead_late rfl (fun K hK => ⟨.int .u64 (boot : Int), fun w' hC => ⟨rfl, ?_⟩, hK _ ?_⟩)
  · clear hK K
    go_simp
    rw [IntKind.wrap_u64]; omega
  clear hK K
  refine wpStores_call (f := 81) rfl rfl (by exact exec_enter (xl := [.tmp 8, .const (.int .i64 4)]) rfl rfl Try.func81 rfl rfl _) (put_at boot 4 _ _ _ rfl rfl (by decide)) ?_
  rintro e w1 ⟨v, rfl, hown, hb1⟩
  refine ⟨v, rfl, trivial, ?_⟩
  obtain ⟨A, c, rfl⟩ := own_slice hown
  have C0 := Lib.hid ((show Blk ((w.alloc (.cells noughts12.toArray 48)).alloc (.cells noughts12.toArray 48)).drew w.heap.size 48 noughts12 from B0.out).below hb1 B0.out.lt)
  have C1 := Lib.hid ((show Blk ((w.alloc (.cells noughts12.toArray 48)).alloc (.cells noughts12.toArray 48)).drew (w.heap.size + 1) 48 noughts12 from B1.out).below hb1 B1.out.lt)
  have CB := Lib.hid (HB.out.drew.trans (hb1.mono (show w.heap.size ≤ ((w.alloc (.cells noughts12.toArray 48)).alloc (.cells noughts12.toArray 48)).heap.size by simp; omega)))
  clear hb1 B0 B1 HB
  refine wpStores_copy (news := bs (putB boot 4)) rfl rfl (.tmp 6) (.tmp 9) 41 41 5 rfl Try.underlying41 info5 rfl rfl (.of_own hown) (by rw [bs_length, putB_length]; decide) (by rw [bs_length, putB_length]) (by omega) C1.out (by rw [bs_length, putB_length]; decide) (bs_one _) ?_
  intro w2 hP2 hg2
  refine ⟨trivial, ?_⟩
  have D0 := Lib.hid (C0.out.grown hg2 (by simp))
  have DB := Lib.hid (CB.out.grown hg2 (by have := C0.out.lt; omega) (fun j hj => by cases hj; omega))
  have D1 := Lib.hid hP2
  clear hP2 hg2 C0 C1 CB hown
  unfold wpStores
  simp only [Act.put, List.getElem_toArray, List.getElem_cons_succ, List.getElem_cons_zero, List.setIfInBounds_toArray, List.set_cons_zero, List.set_cons_succ]
  go_wp2_with fail
  try simp only [Act.put]
  refine wp_region_mix [(false, 0), (false, 1)] [2, 3] (by kernel_rfl) (by kernel_rfl) (fun _ => True) trivial ?_
  refine wpHead_late rfl (fun K hK => ⟨.slice (some ⟨w.heap.size + 1, 4, none⟩) 8 8, fun w' hC => ⟨rfl, ?_⟩, hK _ ?_⟩)
  · clear hK K
    go_simp
  clear hK K
  refine wpHead_late rfl (fun K hK => ⟨.int .u64 (seq : Int), fun w' hC => ⟨rfl, ?_⟩, hK _ ?_⟩)
  · clear hK K
    go_simp
  clear hK K
  refine wpStores_call (f := 81) rfl rfl (by exact exec_enter (xl := [.tmp 12, .const (.int .i64 8)]) rfl rfl Try.func81 rfl rfl _) (put_at seq 8 _ _ _ rfl rfl (by decide)) ?_
  rintro e w3 ⟨v, rfl, hown, hb3⟩
  refine ⟨v, rfl, trivial, ?_⟩
  obtain ⟨A3, c3, rfl⟩ := own_slice hown
  have E0 := Lib.hid ((show Blk w2.drew w.heap.size 48 noughts12 from D0.out).below hb3 D0.out.lt)
  have E1 := Lib.hid ((show Blk w2.drew (w.heap.size + 1) 48 (lay noughts12 0 (bs (putB boot 4))) from D1.out).below hb3 D1.out.lt)
  have EB := Lib.hid (DB.out.drew.trans (hb3.mono (show w.heap.size ≤ w2.heap.size from DB.out.size)))
  clear hb3 D0 D1 DB
  refine wpStores_copy (news := bs (putB seq 8)) rfl rfl (.tmp 11) (.tmp 13) 41 41 5 rfl Try.underlying41 info5 rfl rfl (.of_own hown) (by rw [bs_length, putB_length]; decide) (by rw [bs_length, putB_length]) (by omega) E1.out (by rw [lay_length _ _ _ (by rw [bs_length, putB_length]; decide), bs_length, putB_length]; decide) (bs_one _) ?_
  intro w4 hP4 hg4
  refine ⟨trivial, ?_⟩
  rw [lay_head boot seq] at hP4
  have F0 := Lib.hid (E0.out.grown hg4 (by simp))
  have FB := Lib.hid (EB.out.grown hg4 (by have := E0.out.lt; omega) (fun j hj => by cases hj; omega))
  have F1 := Lib.hid hP4
  clear hP4 hg4 E0 E1 EB hown
  unfold wpStores
  simp only [Act.put, List.getElem_toArray, List.getElem_cons_succ, List.getElem_cons_zero, List.setIfInBounds_toArray, List.set_cons_zero, List.set_cons_succ]
  have hl12 : (bs (hdB boot seq)).length = 12 := by rw [bs_length, hdB_length]
  have h1c := bs_one (hdB boot seq)
  generalize hX : bs (hdB boot seq) = X at *
  have HX := Lib.hid hX
  have HLn := Lib.hid hl12
  have HOne := Lib.hid h1c
  clear hX hl12 h1c
  go_wp2_with (first
    | (refine wpList_getAll rfl 48 (.tmp 5) rfl rfl F1.out Try.underlying48 rfl info48 HLn.out ?_)
    | (refine wpList_putAll rfl 48 (.tmp 4) (.tmp 15) rfl (vs := X) rfl rfl F0.out info48 HLn.out rfl HOne.out ?_; intro w6 hB6 hg6; have H6 := Lib.hid hB6; clear hB6))
  have hbel := FB.out.grown hg6 FB.out.size (fun j hj => by cases hj; omega)
  refine bodyPost_ret (results_blk (cs := X) rfl _ rfl H6.out Try.underlying48 rfl (by rw [HLn.out]; exact info48)) rfl ⟨by rw [HX.out], hbel⟩
end Go.Proofs.Ytbdnoiaglighhaa
