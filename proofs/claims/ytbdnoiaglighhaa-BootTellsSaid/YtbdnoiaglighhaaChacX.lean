/- The walks of packages quar and chac, second part. No statement is proved here. -/
import Derived.Test.YtbdnoiaglighhaaChacW
import Derived.Test.YtbdnoiaglighhaaMem
namespace Go.Proofs.Ytbdnoiaglighhaa
set_option linter.unusedVariables false
set_option linter.unusedSimpArgs false
open Go.RowKit

/-- The table of places, as cells. -/
def row4 (a b c d : Nat) : List Value := [.int .i64 (a : Int), .int .i64 (b : Int), .int .i64 (c : Int), .int .i64 (d : Int)]
def placeRow (k : Nat) : List Value := let p := places.getD k (0, 0, 0, 0); row4 p.1 p.2.1 p.2.2.1 p.2.2.2
def placeCells : List Value := placeRow 0 ++ placeRow 1 ++ placeRow 2 ++ placeRow 3 ++ placeRow 4 ++ placeRow 5 ++ placeRow 6 ++ placeRow 7
def noughts32 : List Value := List.replicate 32 (.int .i64 0)
def placeTo : Nat → List Value
  | 0 => noughts32
  | k + 1 => lay (lay (placeTo k) (4 * k) (placeRow k)) (16 + 4 * k) (placeRow (4 + k))
theorem placeTo4 : placeTo 4 = placeCells := by rfl
theorem info128 : (Try.prog.info? 128).map (·.size) = some 4 := by kernel_rfl
theorem info129 : (Try.prog.info? 129).map (·.size) = some 32 := by kernel_rfl

set_option maxHeartbeats 1000000 in
set_option maxRecDepth 100000 in
theorem places_calls (w : World) : Calls Try.prog 109 #[] w fun e w' => e = .returned (.agg placeCells.toArray) ∧ Below w.heap.size w w' := by
  go_enter Try.func109, Try.ntmps109
  go_wp2
  have h0 : Blk ((w.alloc (.cells noughts32.toArray 129)).alloc (.cells noughts32.toArray 129)) w.heap.size 129 noughts32 := (Blk.new w 129 noughts32).alloc _
  have h1 : Blk ((w.alloc (.cells noughts32.toArray 129)).alloc (.cells noughts32.toArray 129)) (w.heap.size + 1) 129 noughts32 := by
    have := Blk.new (w.alloc (.cells noughts32.toArray 129)) 129 noughts32
    rwa [World.size_alloc] at this
  have hb : Below w.heap.size w ((w.alloc (.cells noughts32.toArray 129)).alloc (.cells noughts32.toArray 129)) := ((Below.refl _ _).alloc (Nat.le_refl _) _).alloc (by simp) _
  go_loopw [3] (fun i wr => ∃ k : Nat, k ≤ 4 ∧ i = .int .i64 (k : Int) ∧ Blk wr (w.heap.size + 1) 129 (placeTo k) ∧ Blk wr w.heap.size 129 noughts32 ∧ Below w.heap.size w wr) (fun i _ => 4 - (intOf i).toNat)
  case atStart => exact ⟨0, by omega, rfl, h1, h0, hb⟩
  case round =>
    obtain ⟨k, hk, rfl, hB1, hB0, hbel⟩ := hrel
    clear h0 h1 hb
    have H1 := Lib.hid hB1
    have H0 := Lib.hid hB0
    have HB := Lib.hid hbel
    clear hB1 hB0 hbel
    rcases (show k = 0 ∨ k = 1 ∨ k = 2 ∨ k = 3 ∨ k = 4 by omega) with rfl | rfl | rfl | rfl | rfl
    · go_wp2_with (first
        | (refine wpList_put rfl 128 (.tmp 15) (.tmp 14) rfl rfl rfl H1.out (vs := placeRow 0) rfl info128 (by decide) (by decide) ?_; intro w1 hB2 hg1; have H2 := Lib.hid hB2; clear hB2)
        | (refine wpList_put rfl 128 (.tmp 32) (.tmp 31) rfl rfl rfl H2.out (vs := placeRow 4) rfl info128 (by decide) (by decide) ?_; intro w2 hB3 hg2; have H3 := Lib.hid hB3; clear hB3))
      have hbel := (HB.out.grown hg1 HB.out.size (fun j hj => by cases hj; omega)).grown hg2 (Nat.le_trans HB.out.size hg1.size) (fun j hj => by cases hj; omega)
      have hz := (H0.out.grown hg1 (by simp)).grown hg2 (by simp)
      go_roundw
      case rel => exact ⟨1, by omega, rfl, H3.out, hz, hbel⟩
      case measure => simp [intOf]
    · go_wp2_with (first
        | (refine wpList_put rfl 128 (.tmp 15) (.tmp 14) rfl rfl rfl H1.out (vs := placeRow 1) rfl info128 (by decide) (by decide) ?_; intro w1 hB2 hg1; have H2 := Lib.hid hB2; clear hB2)
        | (refine wpList_put rfl 128 (.tmp 32) (.tmp 31) rfl rfl rfl H2.out (vs := placeRow 5) rfl info128 (by decide) (by decide) ?_; intro w2 hB3 hg2; have H3 := Lib.hid hB3; clear hB3))
      have hbel := (HB.out.grown hg1 HB.out.size (fun j hj => by cases hj; omega)).grown hg2 (Nat.le_trans HB.out.size hg1.size) (fun j hj => by cases hj; omega)
      have hz := (H0.out.grown hg1 (by simp)).grown hg2 (by simp)
      go_roundw
      case rel => exact ⟨2, by omega, rfl, H3.out, hz, hbel⟩
      case measure => simp [intOf]
    · go_wp2_with (first
        | (refine wpList_put rfl 128 (.tmp 15) (.tmp 14) rfl rfl rfl H1.out (vs := placeRow 2) rfl info128 (by decide) (by decide) ?_; intro w1 hB2 hg1; have H2 := Lib.hid hB2; clear hB2)
        | (refine wpList_put rfl 128 (.tmp 32) (.tmp 31) rfl rfl rfl H2.out (vs := placeRow 6) rfl info128 (by decide) (by decide) ?_; intro w2 hB3 hg2; have H3 := Lib.hid hB3; clear hB3))
      have hbel := (HB.out.grown hg1 HB.out.size (fun j hj => by cases hj; omega)).grown hg2 (Nat.le_trans HB.out.size hg1.size) (fun j hj => by cases hj; omega)
      have hz := (H0.out.grown hg1 (by simp)).grown hg2 (by simp)
      go_roundw
      case rel => exact ⟨3, by omega, rfl, H3.out, hz, hbel⟩
      case measure => simp [intOf]
    · go_wp2_with (first
        | (refine wpList_put rfl 128 (.tmp 15) (.tmp 14) rfl rfl rfl H1.out (vs := placeRow 3) rfl info128 (by decide) (by decide) ?_; intro w1 hB2 hg1; have H2 := Lib.hid hB2; clear hB2)
        | (refine wpList_put rfl 128 (.tmp 32) (.tmp 31) rfl rfl rfl H2.out (vs := placeRow 7) rfl info128 (by decide) (by decide) ?_; intro w2 hB3 hg2; have H3 := Lib.hid hB3; clear hB3))
      have hbel := (HB.out.grown hg1 HB.out.size (fun j hj => by cases hj; omega)).grown hg2 (Nat.le_trans HB.out.size hg1.size) (fun j hj => by cases hj; omega)
      have hz := (H0.out.grown hg1 (by simp)).grown hg2 (by simp)
      go_roundw
      case rel => exact ⟨4, by omega, rfl, H3.out, hz, hbel⟩
      case measure => simp [intOf]
    · go_wp2_with (first
        | (refine wpList_getN rfl 129 (.tmp 1) rfl rfl H1.out Try.underlying129 rfl info129 (by decide) ?_)
        | (refine wpList_put rfl 129 (.tmp 0) (.tmp 34) rfl rfl rfl H0.out (vs := placeCells) rfl info129 (by decide) (by decide) ?_; intro w2 hB3 hg2; have H3 := Lib.hid hB3; clear hB3))
      have hbel := HB.out.grown hg2 HB.out.size (fun j hj => by cases hj; omega)
      refine bodyPost_ret (results_blk (cs := placeCells) rfl _ rfl H3.out Try.underlying129 rfl info129) rfl ⟨rfl, hbel⟩

set_option maxHeartbeats 1000000 in
set_option maxRecDepth 100000 in
theorem rplaces_calls (w : World) : Calls Try.prog 111 #[] w fun e w' => e = .returned (.agg placeCells.toArray) ∧ Below w.heap.size w w' := by
  have H0 := Lib.hid (Blk.new w 129 noughts32)
  go_enter Try.func111, Try.ntmps111
  go_wp2_with (first
    | (refine wpList_put rfl 129 (.tmp 0) (.tmp 9) rfl rfl rfl H0.out (vs := placeCells) rfl info129 (by decide) (by decide) ?_; intro w2 hB3 hg2; have H3 := Lib.hid hB3; clear hB3))
  have hbel := ((Below.refl w.heap.size w).alloc (Nat.le_refl _) _).grown hg2 (by simp) (fun j hj => by cases hj; omega)
  refine bodyPost_ret (results_blk (cs := placeCells) rfl _ rfl H3.out Try.underlying129 rfl info129) rfl ⟨rfl, hbel⟩

end Go.Proofs.Ytbdnoiaglighhaa
