/- The walks of package disk's small methods: has, count, Cut, Size, block, and slices.Clone of bytes. No statement is proved here. -/
import Derived.Test.YtbdnoiaglighhaaDevN
import Derived.Deep.RegionWith
import Derived.WalkLawsBesides
namespace Go.Proofs.Ytbdnoiaglighhaa
set_option linter.unusedVariables false
set_option linter.unusedSimpArgs false
open Go.RowKit Go.Maps

section
variable {w : World} {db mS mN : Nat} {S : Dev} {vL vT : Value}
theorem Blk.dev (h : Blk w db 102 (devCells S mS mN vL vT)) : w.cell? ⟨db, 0, none⟩ = some (.int .i64 S.blocks) ∧ w.cell? ⟨db, 1, none⟩ = some (.int .i64 S.size) ∧ w.cell? ⟨db, 2, none⟩ = some (.map (some mS)) ∧ w.cell? ⟨db, 3, none⟩ = some (.map (some mN)) ∧
    w.cell? ⟨db, 4, none⟩ = some vL ∧ w.cell? ⟨db, 5, none⟩ = some (.int .i64 S.after) ∧ w.cell? ⟨db, 6, none⟩ = some (.bool S.off) ∧ w.cell? ⟨db, 7, none⟩ = some vT :=
  ⟨h.cellAt rfl, h.cellAt rfl, h.cellAt rfl, h.cellAt rfl, h.cellAt rfl, h.cellAt rfl, h.cellAt rfl, h.cellAt rfl⟩

theorem has_neg (S : Dev) {x : Int} (h : x < 0) : decide (S.has x) = false := decide_eq_false (fun h' => by have := h'.1; omega)
theorem has_pos (S : Dev) {x : Int} (h : 0 ≤ x) : decide (S.has x) = decide (x < (S.blocks : Int)) := by
  have e : S.has x = (x < (S.blocks : Int)) := propext ⟨fun h' => h'.2, fun h' => ⟨h, h'⟩⟩
  simp only [e]
set_option maxRecDepth 100000 in
theorem dhas_calls (h : Blk w db 102 (devCells S mS mN vL vT)) (x : Int) : Calls Try.prog 77 #[.pointer (some ⟨db, 0, none⟩), .int .i64 x] w fun e w' => e = .returned (.bool (decide (S.has x))) ∧ w = w' := by
  have c0 := h.dev.1
  clear h
  by_cases h0 : x < 0
  · go_enter Try.func77, Try.ntmps77
    go_wp2
    go_ret
    exact ⟨ret_bool (has_neg S h0).symm, rfl⟩
  · go_enter Try.func77, Try.ntmps77
    go_wp2
    go_ret
    exact ⟨ret_bool (has_pos S (by omega)).symm, rfl⟩

set_option maxRecDepth 100000 in
theorem size_calls (h : Blk w db 102 (devCells S mS mN vL vT)) : Calls Try.prog 97 #[.pointer (some ⟨db, 0, none⟩)] w fun e w' => e = .returned (.int .i64 (S.size : Int)) ∧ w = w' := by
  have c0 := h.dev.2.1
  clear h
  go_enter Try.func97, Try.ntmps97
  go_wp2
  go_ret
  exact ⟨rfl, rfl⟩
theorem info4 : (Try.prog.info? 4).map (·.size) = some 1 := by kernel_rfl
theorem info3 : (Try.prog.info? 3).map (·.size) = some 1 := by kernel_rfl
set_option maxHeartbeats 400000 in
set_option maxRecDepth 100000 in
theorem count_live (h : Blk w db 102 (devCells S mS mN vL vT)) (hl : S.live) (ha : -1 ≤ S.after ∧ S.after ≤ 9223372036854775807) :
    Calls Try.prog 74 #[.pointer (some ⟨db, 0, none⟩)] w fun e w' => e = .returned (.tuple #[]) ∧ Blk w' db 102 (devCells S.tick mS mN vL vT) ∧ w.grownBy w' (some db) := by
  obtain ⟨hoff, hz⟩ := hl
  obtain ⟨c0, c1, c2, c3, c4, c5, c6, c7⟩ := h.dev
  rw [hoff] at c6
  have H := Lib.hid h
  have e0 : (S.after == 0) = false := by simpa using hz
  have OFF := Lib.hid hoff
  clear h c0 c1 c2 c3 c4 c7 hoff hz
  by_cases hp : 0 < S.after
  · go_enter Try.func74, Try.ntmps74
    go_wp2_with (first
      | (refine wpList_put rfl 4 (.tmp 15) (.tmp 13) rfl rfl rfl H.out (vs := [.bool false]) rfl info4 (by simp [devCells]) (by simp [Value.oneCell']) ?_; intro w1 hP1 hg1; rw [lay_one _ _ _ (by simp [devCells])] at hP1; have q6 := hP1.cellAt (i := 6) rfl; have q5 := hP1.cellAt (i := 5) rfl; have HP := Lib.hid hP1; clear hP1)
      | (refine wpList_put rfl 3 (.tmp 33) (.tmp 31) rfl rfl rfl HP.out (vs := [.int .i64 (S.after - 1)]) rfl info3 (by simp [devCells]) (by simp [Value.oneCell']) ?_; intro w2 hP2 hg2; rw [lay_one _ _ _ (by simp [devCells])] at hP2))
    go_end0
    refine ⟨rfl, ?_, hg1.andThen hg2 (fun j hj => .inr (by cases hj; rfl))⟩
    have e : devCells S.tick mS mN vL vT = ((devCells S mS mN vL vT).set 6 (.bool false)).set 5 (.int .i64 (S.after - 1)) := by simp [devCells, Dev.tick, hp, OFF.out]
    rw [e]
    exact hP2
  · go_enter Try.func74, Try.ntmps74
    go_wp2_with (first
      | (refine wpList_put rfl 4 (.tmp 15) (.tmp 13) rfl rfl rfl H.out (vs := [.bool false]) rfl info4 (by simp [devCells]) (by simp [Value.oneCell']) ?_; intro w1 hP1 hg1; rw [lay_one _ _ _ (by simp [devCells])] at hP1; have q6 := hP1.cellAt (i := 6) rfl; have q5 := hP1.cellAt (i := 5) rfl; have HP := Lib.hid hP1; clear hP1))
    go_end0
    refine ⟨rfl, ?_, hg1⟩
    have e : devCells S.tick mS mN vL vT = (devCells S mS mN vL vT).set 6 (.bool false) := by simp [devCells, Dev.tick, show ¬ 0 < S.after by omega, OFF.out]
    rw [e]
    exact HP.out
/-- What the device panics with. -/
def gone : PanicEntry := { v := .iface 116 (.agg #[]), recovered := false }
set_option maxHeartbeats 400000 in
set_option maxRecDepth 100000 in
theorem count_dead (h : Blk w db 102 (devCells S mS mN vL vT)) (hl : ¬ S.live) :
    Calls Try.prog 74 #[.pointer (some ⟨db, 0, none⟩)] w fun e w' => e = .panicked [gone] ∧ Blk w' db 102 (devCells S.dead mS mN vL vT) ∧ w.grownBy w' (some db) := by
  obtain ⟨c0, c1, c2, c3, c4, c5, c6, c7⟩ := h.dev
  have H := Lib.hid h
  have OFF : S.off = true ∨ S.off = false ∧ (S.after == 0) = true := by
    unfold Dev.live at hl
    cases hS : S.off
    · refine .inr ⟨rfl, ?_⟩
      simpa [hS] using hl
    · exact .inl rfl
  clear h c0 c1 c2 c3 c4 c7 hl
  rcases OFF with hoff | ⟨hoff, hz⟩
  · rw [hoff] at c6
    clear hoff
    go_enter Try.func74, Try.ntmps74
    go_wp2_with (first
      | (refine wpList_put rfl 4 (.tmp 15) (.tmp 13) rfl rfl rfl H.out (vs := [.bool true]) rfl info4 (by simp [devCells]) (by simp [Value.oneCell']) ?_; intro w1 hP1 hg1; rw [lay_one _ _ _ (by simp [devCells])] at hP1; have q6 := hP1.cellAt (i := 6) rfl; have HP := Lib.hid hP1; clear hP1))
    exact ⟨rfl, rfl, HP.out, hg1⟩
  · rw [hoff] at c6
    clear hoff
    go_enter Try.func74, Try.ntmps74
    go_wp2_with (first
      | (refine wpList_put rfl 4 (.tmp 15) (.tmp 13) rfl rfl rfl H.out (vs := [.bool true]) rfl info4 (by simp [devCells]) (by simp [Value.oneCell']) ?_; intro w1 hP1 hg1; rw [lay_one _ _ _ (by simp [devCells])] at hP1; have q6 := hP1.cellAt (i := 6) rfl; have HP := Lib.hid hP1; clear hP1))
    exact ⟨rfl, rfl, HP.out, hg1⟩
set_option maxHeartbeats 400000 in
set_option maxRecDepth 100000 in
theorem cut_cells (h : Blk w db 102 (devCells S mS mN vL vT)) (n : Int) :
    Calls Try.prog 50 #[.pointer (some ⟨db, 0, none⟩), .int .i64 n] w fun e w' => e = .returned (.tuple #[]) ∧ Blk w' db 102 (devCells (S.cut n) mS mN vL vT) ∧ w.grownBy w' (some db) := by
  have H := Lib.hid h
  clear h
  by_cases hn : n < -1
  · have hm : devCells (S.cut n) mS mN vL vT = (devCells S mS mN vL vT).set 5 (.int .i64 (-1)) := by
      have : max n (-1) = -1 := by omega
      simp [devCells, Dev.cut, this]
    have HM := Lib.hid hm
    clear hm
    go_enter Try.func50, Try.ntmps50
    go_wp2_with (first
      | (refine wpList_put rfl 3 (.tmp 8) (.tmp 6) rfl rfl rfl H.out (vs := [.int .i64 (-1)]) rfl info3 (by simp [devCells]) (by simp [Value.oneCell']) ?_; intro w1 hP1 hg1; rw [lay_one _ _ _ (by simp [devCells])] at hP1))
    go_end0
    exact ⟨rfl, by rw [HM.out]; exact hP1, hg1⟩
  · have hm : devCells (S.cut n) mS mN vL vT = (devCells S mS mN vL vT).set 5 (.int .i64 n) := by
      have : max n (-1) = n := by omega
      simp [devCells, Dev.cut, this]
    have HM := Lib.hid hm
    clear hm
    go_enter Try.func50, Try.ntmps50
    go_wp2_with (first
      | (refine wpList_put rfl 3 (.tmp 8) (.tmp 6) rfl rfl rfl H.out (vs := [.int .i64 n]) rfl info3 (by simp [devCells]) (by simp [Value.oneCell']) ?_; intro w1 hP1 hg1; rw [lay_one _ _ _ (by simp [devCells])] at hP1))
    go_end0
    exact ⟨rfl, by rw [HM.out]; exact hP1, hg1⟩
end
end Go.Proofs.Ytbdnoiaglighhaa
