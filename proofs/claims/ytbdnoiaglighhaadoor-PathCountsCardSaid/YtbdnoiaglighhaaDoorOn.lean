/- The walk of dumbwaiterlaw13.awake. No statement is proved here. -/
import Derived.Test.YtbdnoiaglighhaaDoorAt
import Derived.Maps.AppendAt
import Derived.Lib.SmallJoins
namespace Go.Proofs.YtbdnoiaglighhaaDoor
set_option linter.unusedVariables false
set_option linter.unusedSimpArgs false
open Go.RowKit

theorem Tab.below {w w' : World} {B : Nat} (h : Tab w) (hb : Below B w w') (h1 : 1 < B) : Tab w' := fun i hi => (hb.cell (p := ⟨1, i, none⟩) h1).trans (h i hi)
theorem d8 (w : World) (h : Tab w) : Calls Tryd.prog 6 #[.int .i64 8] w fun e w' => e = .returned (.int .i64 3) ∧ w = w' := depth_calls 3 (by decide) w h
set_option maxRecDepth 100000 in
theorem d6 (w : World) : Calls Tryd.prog 6 #[.int .i64 6] w fun e w' => e = .returned (.int .i64 0) ∧ w = w' := by
  have e3 : bits BinOp.and .i64 6 5 = 4 := by decide +kernel
  go_enter Tryd.func6, Tryd.ntmps6
  go_wp2
  go_ret
  exact ⟨rfl, rfl⟩
theorem d4 (w : World) (h : Tab w) : Calls Tryd.prog 6 #[.int .i64 4] w fun e w' => e = .returned (.int .i64 2) ∧ w = w' := depth_calls 2 (by decide) w h
theorem may4 : May 4 := ⟨by decide, by decide, by decide +kernel⟩
theorem at4 (i : Int) (k : Nat) (K v : Int) (hK : K = (k : Int)) (hk : k ≤ 2) (hi : 0 ≤ i ∧ i < 4) (hv : (2 : Int) ^ k - 1 + i / 2 ^ (2 - k) = v) (w : World) (h : Tab w) :
    Calls Tryd.prog 4 #[.int .i64 4, .int .i64 i, .int .i64 K] w fun e w' => e = .returned (.tuple #[.int .i64 v, .bool true]) ∧ ∃ m, w' = w.drewN m := by
  subst hv hK
  exact at_calls 2 (by decide) 4 i rfl k hk hi w h
set_option maxRecDepth 100000 in
theorem at423 (w : World) (h : Tab w) : Calls Tryd.prog 4 #[.int .i64 4, .int .i64 2, .int .i64 3] w fun e w' => e = .returned (.tuple #[.int .i64 0, .bool false]) ∧ w = w' := by
  go_enter Tryd.func4, Tryd.ntmps4
  go_wp2_with (first
    | (go_at_call 6; refine (d4 _ h).mono ?_; rintro e w' ⟨rfl, rfl⟩)
    | (go_at_call 8; refine (has_calls 4 2 may4 (by decide) _).mono ?_; rintro e w' ⟨rfl, rfl⟩))
  go_ret2
  exact ⟨rfl, rfl⟩
set_option maxRecDepth 100000 in
theorem has44 (w : World) (i : Int) (hi : 4 ≤ i) : Calls Tryd.prog 8 #[.int .i64 4, .int .i64 i] w fun e w' => e = .returned (.bool false) ∧ w = w' := by
  have h0 : 0 ≤ i := by omega
  have h4 : ¬ i < 4 := by omega
  go_enter Tryd.func8, Tryd.ntmps8
  go_wp2_with (first
    | (go_at_call 10; refine (leaves_calls _ may4 _).mono ?_; rintro e w' ⟨rfl, rfl⟩))
  go_ret
  exact ⟨by simp; omega, rfl⟩
set_option maxRecDepth 100000 in
theorem at440 (w : World) (h : Tab w) : Calls Tryd.prog 4 #[.int .i64 4, .int .i64 4, .int .i64 0] w fun e w' => e = .returned (.tuple #[.int .i64 0, .bool false]) ∧ w = w' := by
  go_enter Tryd.func4, Tryd.ntmps4
  go_wp2_with (first
    | (go_at_call 6; refine (d4 _ h).mono ?_; rintro e w' ⟨rfl, rfl⟩)
    | (go_at_call 8; refine (has44 _ 4 (by decide)).mono ?_; rintro e w' ⟨rfl, rfl⟩))
  go_ret2
  exact ⟨rfl, rfl⟩
set_option maxRecDepth 100000 in
theorem meet404 (w : World) : Calls Tryd.prog 5 #[.int .i64 4, .int .i64 0, .int .i64 4] w fun e w' => e = .returned (.int .i64 (-1)) ∧ w = w' := by
  go_enter Tryd.func5, Tryd.ntmps5
  go_wp2_with (first
    | (go_at_call_of 8 (Value.int IntKind.i64 0); refine (has_calls 4 0 may4 (by decide) _).mono ?_; rintro e w' ⟨rfl, rfl⟩)
    | (go_at_call 8; refine (has44 _ 4 (by decide)).mono ?_; rintro e w' ⟨rfl, rfl⟩))
  go_ret
  exact ⟨rfl, rfl⟩
theorem meet423 (w : World) (h : Tab w) : Calls Tryd.prog 5 #[.int .i64 4, .int .i64 2, .int .i64 3] w fun e w' => e = .returned (.int .i64 1) ∧ w = w' := by
  have := meet_calls 2 (by decide) 4 rfl 2 3 (by decide) (by decide) w h
  have e : meetOf 2 2 3 = 1 := by decide +kernel
  rw [e] at this
  exact this
set_option maxRecDepth 100000 in
theorem bucks (n v : Int) (w : World) (h : n = 4 ∧ v = 7 ∨ n = 0 ∧ v = 0) : Calls Tryd.prog 12 #[.int .i64 n] w fun e w' => e = .returned (.int .i64 v) ∧ w = w' := by
  rcases h with ⟨rfl, rfl⟩ | ⟨rfl, rfl⟩
  · go_enter Tryd.func12, Tryd.ntmps12
    go_wp2_with (first | (go_at_call 10; refine (leaves_calls _ may4 _).mono ?_; rintro e w' ⟨rfl, rfl⟩))
    go_ret
    exact ⟨rfl, rfl⟩
  · go_enter Tryd.func12, Tryd.ntmps12
    go_wp2
    go_ret
    exact ⟨rfl, rfl⟩

theorem info3 : (Tryd.prog.info? 3).map (fun i => (i.zero, i.size, i.bytes)) = some (some (.int .i64 0), 1, 8) := by kernel_rfl
abbrev ints (l : List Int) : List Value := l.map (Value.int .i64)
def way : List Int := [0, 2, 5]
theorem below_drewN {B : Nat} {w w' : World} (h : Below B w w') (n : Nat) : Below B w (w'.drewN n) := ⟨h.os, h.tape, h.output, h.size, h.block⟩
set_option maxHeartbeats 1000000 in
set_option maxRecDepth 100000 in
theorem on_calls (w : World) (h : Tab w) (h1 : 1 < w.heap.size) : Calls Tryd.prog 14 #[.int .i64 4, .int .i64 2] w fun e w' => ∃ g c, e = .returned (.slice (some ⟨g, 0, none⟩) 3 c) ∧ w'.ownsRow w.heap.size 3 1 (.slice (some ⟨g, 0, none⟩) 3 c) 3 (ints way) ∧ Below w.heap.size w w' := by
  obtain ⟨i0, hi, hz0, hz1, hz2⟩ := info_parts info3
  have HT := Lib.hid h
  have H1 := Lib.hid h1
  clear h h1
  go_enter Tryd.func14, Tryd.ntmps14
  go_wp2_with fail
  go_loopw [5, 6] (fun v i wr => ∃ k : Nat, k ≤ 3 ∧ i = .int .i64 (k : Int) ∧ wr.ownsRow w.heap.size 3 1 v k (ints (way.take k)) ∧ Below w.heap.size w wr) (fun _ i _ => 4 - (intOf i).toNat)
  case atStart => exact ⟨0, by omega, rfl, World.ownsRow_nil _ _ _ _, Below.refl _ _⟩
  case round =>
    obtain ⟨k, hk, rfl, hown, hb⟩ := hrel
    have hT := HT.out.below hb H1.out
    have hsz := hb.size
    obtain rfl | rfl | rfl | rfl : k = 0 ∨ k = 1 ∨ k = 2 ∨ k = 3 := by omega
    · go_wp2_with (first
        | (go_at_call 4; refine (at4 2 0 _ 0 rfl (by decide) (by decide) (by decide) _ hT).mono ?_; rintro e w' ⟨rfl, m, rfl⟩)
        | (at_builtin; refine wpList_append_own _ rfl (.tmp 21) (.tmp 23) 34 rfl w.heap.size 3 i0 (.int .i64 0) 1 8 Tryd.underlying34 hi hz0 hz1 hz2 rfl (by decide) _ _ _ rfl (World.ownsRow.alloc (show (wr.drewN m).ownsRow w.heap.size 3 1 _ _ _ from hown) _) ⟨wr.heap.size, 0, none⟩ 1 1 [.int .i64 0] rfl rfl (cell_one_new _ _ _) (by simp [Value.oneCell']) (by unfold maxLen; omega) (by omega) (by simp; omega) ?_; intro v' w1 hown' hgrow _))
      have hb1 := ((below_drewN hb m).alloc (by simpa using hsz) (.cells #[.int .i64 0] 3)).grown hgrow (by simp; omega) (fun j hj => (hown.lt j hj).1)
      go_roundw
      case rel => exact ⟨1, by omega, by go_num, hown', hb1⟩
      case measure => simp [intOf]
    · go_wp2_with (first
        | (go_at_call 4; refine (at4 2 1 _ 2 rfl (by decide) (by decide) (by decide) _ hT).mono ?_; rintro e w' ⟨rfl, m, rfl⟩)
        | (at_builtin; refine wpList_append_own _ rfl (.tmp 21) (.tmp 23) 34 rfl w.heap.size 3 i0 (.int .i64 0) 1 8 Tryd.underlying34 hi hz0 hz1 hz2 rfl (by decide) _ _ _ rfl (World.ownsRow.alloc (show (wr.drewN m).ownsRow w.heap.size 3 1 _ _ _ from hown) _) ⟨wr.heap.size, 0, none⟩ 1 1 [.int .i64 2] rfl rfl (cell_one_new _ _ _) (by simp [Value.oneCell']) (by unfold maxLen; omega) (by omega) (by simp; omega) ?_; intro v' w1 hown' hgrow _))
      have hb1 := ((below_drewN hb m).alloc (by simpa using hsz) (.cells #[.int .i64 2] 3)).grown hgrow (by simp; omega) (fun j hj => (hown.lt j hj).1)
      go_roundw
      case rel => exact ⟨2, by omega, by go_num, hown', hb1⟩
      case measure => simp [intOf]
    · go_wp2_with (first
        | (go_at_call 4; refine (at4 2 2 _ 5 rfl (by decide) (by decide) (by decide) _ hT).mono ?_; rintro e w' ⟨rfl, m, rfl⟩)
        | (at_builtin; refine wpList_append_own _ rfl (.tmp 21) (.tmp 23) 34 rfl w.heap.size 3 i0 (.int .i64 0) 1 8 Tryd.underlying34 hi hz0 hz1 hz2 rfl (by decide) _ _ _ rfl (World.ownsRow.alloc (show (wr.drewN m).ownsRow w.heap.size 3 1 _ _ _ from hown) _) ⟨wr.heap.size, 0, none⟩ 1 1 [.int .i64 5] rfl rfl (cell_one_new _ _ _) (by simp [Value.oneCell']) (by unfold maxLen; omega) (by omega) (by simp; omega) ?_; intro v' w1 hown' hgrow _))
      have hb1 := ((below_drewN hb m).alloc (by simpa using hsz) (.cells #[.int .i64 5] 3)).grown hgrow (by simp; omega) (fun j hj => (hown.lt j hj).1)
      go_roundw
      case rel => exact ⟨3, by omega, by go_num, hown', hb1⟩
      case measure => simp [intOf]
    · go_wp2_with (first
        | (go_at_call 4; refine (at423 _ hT).mono ?_; rintro e w' ⟨rfl, rfl⟩))
      obtain ⟨g, c, hv⟩ := Joins.ownsRow_form hown (by decide)
      subst hv
      go_ret
      exact ⟨g, c, rfl, hown, hb⟩

set_option maxHeartbeats 1000000 in
set_option maxRecDepth 100000 in
theorem same_calls (l : List Int) (g1 g2 c1 c2 : Nat) (w : World) (h1 : ∀ k, k < l.length → w.cell? ⟨g1, k, none⟩ = some (.int .i64 (l.getD k 0))) (h2 : ∀ k, k < l.length → w.cell? ⟨g2, k, none⟩ = some (.int .i64 (l.getD k 0))) (hl : l.length < 1000) :
    Calls Tryd.prog 13 #[.slice (some ⟨g1, 0, none⟩) l.length c1, .slice (some ⟨g2, 0, none⟩) l.length c2] w fun e w' => e = .returned (.bool true) ∧ ∃ m, w' = w.drewN m := by
  obtain ⟨n, hn⟩ : ∃ n, n = l.length := ⟨_, rfl⟩
  rw [← hn] at h1 h2 hl ⊢
  have K1 := Lib.hid h1
  have K2 := Lib.hid h2
  clear h1 h2 hn
  go_enter Tryd.func13, Tryd.ntmps13
  go_wp2_with fail
  go_loopw [5] (fun i wr => ∃ k : Nat, k ≤ n ∧ i = .int .i64 (k : Int) ∧ ∃ m, wr = w.drewN m) (fun i _ => n - (intOf i).toNat)
  case atStart => exact ⟨0, by omega, rfl, 0, rfl⟩
  case round =>
    obtain ⟨k, hk, rfl, m, rfl⟩ := hrel
    by_cases hlt : k < n
    · have hlt' : (k : Int) < (n : Int) := by omega
      have hk0 : (0 : Int) ≤ (k : Int) := by omega
      have e1 := K1.out k hlt
      have e2 := K2.out k hlt
      generalize l.getD k 0 = z at *
      go_wp2_with fail
      go_quiet (fail)
      go_wp2
      go_roundw
      case rel => exact ⟨k + 1, by omega, by go_num, _, rfl⟩
      case measure => simp [intOf]; omega
    · have hlt' : ¬ (k : Int) < (n : Int) := by omega
      go_wp2
      go_ret
      exact ⟨rfl, m, rfl⟩

theorem below_drewN' {B : Nat} {w w' : World} {n : Nat} (h : Below B (w.drewN n) w') : Below B w w' := ⟨h.os, h.tape, h.output, h.size, h.block⟩
set_option maxHeartbeats 1000000 in
set_option maxRecDepth 100000 in
theorem awake13_calls (w : World) (h : Tab w) (h1 : 1 < w.heap.size) : Calls Tryd.prog 7 #[] w fun e w' => e = .returned (.bool true) ∧ Below w.heap.size w w' := by
  have HT := Lib.hid h
  have H1 := Lib.hid h1
  clear h h1
  go_enter Tryd.func7, Tryd.ntmps7
  go_wp2_with (first
    | (go_at_call_of 4 (Value.int IntKind.i64 3); refine (at4 3 2 _ 6 rfl (by decide) (by decide) (by decide) _ HT.out).mono ?_; rintro e w' ⟨rfl, m, rfl⟩; have HT2 := Lib.hid (show Tab (w.drewN m) from HT.out); clear HT)
    | (go_at_call_of 4 (Value.int IntKind.i64 0); refine (at440 _ HT2.out).mono ?_; rintro e w' ⟨rfl, rfl⟩)
    | (go_at_call_of 6 (Value.int IntKind.i64 8); refine (d8 _ HT2.out).mono ?_; rintro e w' ⟨rfl, rfl⟩)
    | (go_at_call_of 6 (Value.int IntKind.i64 6); refine (d6 _).mono ?_; rintro e w' ⟨rfl, rfl⟩)
    | (go_at_call_of 12 (Value.int IntKind.i64 4); refine (bucks 4 7 _ (.inl ⟨rfl, rfl⟩)).mono ?_; rintro e w' ⟨rfl, rfl⟩)
    | (go_at_call_of 12 (Value.int IntKind.i64 0); refine (bucks 0 0 _ (.inr ⟨rfl, rfl⟩)).mono ?_; rintro e w' ⟨rfl, rfl⟩)
    | (go_at_call 14; refine (on_calls _ HT2.out H1.out).mono ?_; rintro e w2 ⟨g, c, rfl, hown, hb⟩; have HO := Lib.hid hown; have HB := Lib.hid hb; have HT3 := Lib.hid (HT2.out.below hb H1.out); clear hown hb))
  have hown := HO.out
  have hg : g < w2.heap.size := (hown.lt g rfl).2
  have hcells : ∀ k, k < way.length → (w2.alloc (.cells #[.int .i64 0, .int .i64 2, .int .i64 5] 3)).cell? ⟨g, k, none⟩ = some (.int .i64 (way.getD k 0)) := by
    intro k hk
    have h1 := hown.cells (g := g) rfl k (.int .i64 (way.getD k 0)) (by
      have hk3 : k < 3 := hk
      obtain rfl | rfl | rfl : k = 0 ∨ k = 1 ∨ k = 2 := by omega
      all_goals rfl)
    rw [show (⟨g, 0, none⟩ : Addr).add k = ⟨g, k, none⟩ by unfold Addr.add; split <;> simp_all] at h1
    rw [World.cell?_alloc_past _ _ _ hg]
    exact h1
  have hcells2 : ∀ k, k < way.length → (w2.alloc (.cells #[.int .i64 0, .int .i64 2, .int .i64 5] 3)).cell? ⟨w2.heap.size, k, none⟩ = some (.int .i64 (way.getD k 0)) := by
    intro k hk
    have hk3 : k < 3 := hk
    rw [cell_of_row _ _ k _ 3 (0, 0) (heap_alloc_new w2 _)]
    obtain rfl | rfl | rfl : k = 0 ∨ k = 1 ∨ k = 2 := by omega
    all_goals rfl
  have HT4 := Lib.hid (show Tab (w2.alloc (.cells #[.int .i64 0, .int .i64 2, .int .i64 5] 3)) from HT3.out.below ((Below.refl w2.heap.size w2).alloc (Nat.le_refl _) _) (by have := HB.out.size; have := H1.out; show 1 < w2.heap.size; have h2 : (w.drewN m).heap.size = w.heap.size := rfl; omega))
  have HC := Lib.hid ((show Below w.heap.size w w2 from below_drewN' HB.out).alloc (show w.heap.size ≤ w2.heap.size from HB.out.size) (.cells #[.int .i64 0, .int .i64 2, .int .i64 5] 3))
  refine (same_calls way g w2.heap.size c 3 _ hcells hcells2 (by decide)).mono ?_
  rintro e w3 ⟨rfl, m3, rfl⟩
  have HT5 := Lib.hid (show Tab ((w2.alloc (.cells #[.int .i64 0, .int .i64 2, .int .i64 5] 3)).drewN m3) from HT4.out)
  clear HO HB HT2 HT3 HT4 hown hcells hcells2
  go_wp2_with (first
    | (go_at_call_of 5 (Value.int IntKind.i64 3); refine (meet423 _ HT5.out).mono ?_; rintro e w' ⟨rfl, rfl⟩)
    | (go_at_call_of 5 (Value.int IntKind.i64 0); refine (meet404 _).mono ?_; rintro e w' ⟨rfl, rfl⟩))
  go_ret
  exact ⟨rfl, below_drewN HC.out m3⟩
end Go.Proofs.YtbdnoiaglighhaaDoor
