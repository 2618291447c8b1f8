/- What package path reckons: Depth, At, Meet at a number of leaves that may be. No statement is proved here. -/
import Derived.Test.YtbdnoiaglighhaaDoorProg
import Derived.WalkKit
import Derived.BigQuiet
import Derived.Deep.QuietTactic
import Derived.KernelRfl
import Derived.Lib.Hide
namespace Go.Proofs.YtbdnoiaglighhaaDoor
set_option linter.unusedVariables false
set_option linter.unusedSimpArgs false
open Go.RowKit

/-- The table that TrailingZeros64 looks into. -/
def tab : List Int := [0, 1, 56, 2, 57, 49, 28, 3, 61, 58, 42, 50, 38, 29, 17, 4, 62, 47, 59, 36, 45, 43, 51, 22, 53, 39, 33, 30, 24, 18, 12, 5, 63, 55, 48, 27, 60, 41, 37, 16, 46, 35, 44, 21, 52, 32, 23, 11, 54, 26, 40, 15, 34, 20, 31, 10, 25, 14, 19, 9, 13, 8, 7, 6]
/-- It lies in the world. -/
def Tab (w : World) : Prop := ∀ i, i < 64 → w.cell? ⟨1, i, none⟩ = some (.int .u8 (tab.getD i 0))
theorem Tab.at {w : World} (h : Tab w) (i : Nat) (v : Int) (hi : i < 64) (hv : tab.getD i 0 = v) : w.cell? ⟨1, i, none⟩ = some (.int .u8 v) := by rw [h i hi, hv]

set_option maxRecDepth 100000 in
theorem tz_0 (w : World) (h : Tab w) : Calls Tryd.prog 11 #[.int .u64 1] w fun e w' => e = .returned (.int .i64 0) ∧ w = w' := by
  have h0 := h.at 0 0 (by decide) rfl
  clear h
  have e1 : bits BinOp.and .u64 1 (IntKind.u64.wrap (-1)) = 1 := by decide +kernel
  have e2 : IntKind.u64.wrap 285870213051353865 = 285870213051353865 := by decide +kernel
  go_enter Tryd.func11, Tryd.ntmps11
  go_wp2
  go_ret
  exact ⟨rfl, rfl⟩
set_option maxRecDepth 100000 in
theorem tz_1 (w : World) (h : Tab w) : Calls Tryd.prog 11 #[.int .u64 2] w fun e w' => e = .returned (.int .i64 1) ∧ w = w' := by
  have h0 := h.at 1 1 (by decide) rfl
  clear h
  have e1 : bits BinOp.and .u64 2 (IntKind.u64.wrap (-2)) = 2 := by decide +kernel
  have e2 : IntKind.u64.wrap 571740426102707730 = 571740426102707730 := by decide +kernel
  go_enter Tryd.func11, Tryd.ntmps11
  go_wp2
  go_ret
  exact ⟨rfl, rfl⟩
set_option maxRecDepth 100000 in
theorem tz_2 (w : World) (h : Tab w) : Calls Tryd.prog 11 #[.int .u64 4] w fun e w' => e = .returned (.int .i64 2) ∧ w = w' := by
  have h0 := h.at 3 2 (by decide) rfl
  clear h
  have e1 : bits BinOp.and .u64 4 (IntKind.u64.wrap (-4)) = 4 := by decide +kernel
  have e2 : IntKind.u64.wrap 1143480852205415460 = 1143480852205415460 := by decide +kernel
  go_enter Tryd.func11, Tryd.ntmps11
  go_wp2
  go_ret
  exact ⟨rfl, rfl⟩
set_option maxRecDepth 100000 in
theorem tz_3 (w : World) (h : Tab w) : Calls Tryd.prog 11 #[.int .u64 8] w fun e w' => e = .returned (.int .i64 3) ∧ w = w' := by
  have h0 := h.at 7 3 (by decide) rfl
  clear h
  have e1 : bits BinOp.and .u64 8 (IntKind.u64.wrap (-8)) = 8 := by decide +kernel
  have e2 : IntKind.u64.wrap 2286961704410830920 = 2286961704410830920 := by decide +kernel
  go_enter Tryd.func11, Tryd.ntmps11
  go_wp2
  go_ret
  exact ⟨rfl, rfl⟩
set_option maxRecDepth 100000 in
theorem tz_4 (w : World) (h : Tab w) : Calls Tryd.prog 11 #[.int .u64 16] w fun e w' => e = .returned (.int .i64 4) ∧ w = w' := by
  have h0 := h.at 15 4 (by decide) rfl
  clear h
  have e1 : bits BinOp.and .u64 16 (IntKind.u64.wrap (-16)) = 16 := by decide +kernel
  have e2 : IntKind.u64.wrap 4573923408821661840 = 4573923408821661840 := by decide +kernel
  go_enter Tryd.func11, Tryd.ntmps11
  go_wp2
  go_ret
  exact ⟨rfl, rfl⟩
set_option maxRecDepth 100000 in
theorem tz_5 (w : World) (h : Tab w) : Calls Tryd.prog 11 #[.int .u64 32] w fun e w' => e = .returned (.int .i64 5) ∧ w = w' := by
  have h0 := h.at 31 5 (by decide) rfl
  clear h
  have e1 : bits BinOp.and .u64 32 (IntKind.u64.wrap (-32)) = 32 := by decide +kernel
  have e2 : IntKind.u64.wrap 9147846817643323680 = 9147846817643323680 := by decide +kernel
  go_enter Tryd.func11, Tryd.ntmps11
  go_wp2
  go_ret
  exact ⟨rfl, rfl⟩
set_option maxRecDepth 100000 in
theorem tz_6 (w : World) (h : Tab w) : Calls Tryd.prog 11 #[.int .u64 64] w fun e w' => e = .returned (.int .i64 6) ∧ w = w' := by
  have h0 := h.at 63 6 (by decide) rfl
  clear h
  have e1 : bits BinOp.and .u64 64 (IntKind.u64.wrap (-64)) = 64 := by decide +kernel
  have e2 : IntKind.u64.wrap 18295693635286647360 = 18295693635286647360 := by decide +kernel
  go_enter Tryd.func11, Tryd.ntmps11
  go_wp2
  go_ret
  exact ⟨rfl, rfl⟩
set_option maxRecDepth 100000 in
theorem tz_7 (w : World) (h : Tab w) : Calls Tryd.prog 11 #[.int .u64 128] w fun e w' => e = .returned (.int .i64 7) ∧ w = w' := by
  have h0 := h.at 62 7 (by decide) rfl
  clear h
  have e1 : bits BinOp.and .u64 128 (IntKind.u64.wrap (-128)) = 128 := by decide +kernel
  have e2 : IntKind.u64.wrap 36591387270573294720 = 18144643196863743104 := by decide +kernel
  go_enter Tryd.func11, Tryd.ntmps11
  go_wp2
  go_ret
  exact ⟨rfl, rfl⟩
set_option maxRecDepth 100000 in
theorem depth_calls (b : Nat) (hb : b < 8) (w : World) (h : Tab w) : Calls Tryd.prog 6 #[.int .i64 ((2 ^ b : Nat) : Int)] w fun e w' => e = .returned (.int .i64 (b : Int)) ∧ w = w' := by
  obtain rfl | rfl | rfl | rfl | rfl | rfl | rfl | rfl : b = 0 ∨ b = 1 ∨ b = 2 ∨ b = 3 ∨ b = 4 ∨ b = 5 ∨ b = 6 ∨ b = 7 := by omega
  · have e3 : bits BinOp.and .i64 1 0 = 0 := by decide +kernel
    go_enter Tryd.func6, Tryd.ntmps6
    go_wp2_with (first | (go_at_call 11; refine (tz_0 _ h).mono ?_; rintro e w' ⟨rfl, rfl⟩) | go_in)
    go_ret
    exact ⟨rfl, rfl⟩
  · have e3 : bits BinOp.and .i64 2 1 = 0 := by decide +kernel
    go_enter Tryd.func6, Tryd.ntmps6
    go_wp2_with (first | (go_at_call 11; refine (tz_1 _ h).mono ?_; rintro e w' ⟨rfl, rfl⟩) | go_in)
    go_ret
    exact ⟨rfl, rfl⟩
  · have e3 : bits BinOp.and .i64 4 3 = 0 := by decide +kernel
    go_enter Tryd.func6, Tryd.ntmps6
    go_wp2_with (first | (go_at_call 11; refine (tz_2 _ h).mono ?_; rintro e w' ⟨rfl, rfl⟩) | go_in)
    go_ret
    exact ⟨rfl, rfl⟩
  · have e3 : bits BinOp.and .i64 8 7 = 0 := by decide +kernel
    go_enter Tryd.func6, Tryd.ntmps6
    go_wp2_with (first | (go_at_call 11; refine (tz_3 _ h).mono ?_; rintro e w' ⟨rfl, rfl⟩) | go_in)
    go_ret
    exact ⟨rfl, rfl⟩
  · have e3 : bits BinOp.and .i64 16 15 = 0 := by decide +kernel
    go_enter Tryd.func6, Tryd.ntmps6
    go_wp2_with (first | (go_at_call 11; refine (tz_4 _ h).mono ?_; rintro e w' ⟨rfl, rfl⟩) | go_in)
    go_ret
    exact ⟨rfl, rfl⟩
  · have e3 : bits BinOp.and .i64 32 31 = 0 := by decide +kernel
    go_enter Tryd.func6, Tryd.ntmps6
    go_wp2_with (first | (go_at_call 11; refine (tz_5 _ h).mono ?_; rintro e w' ⟨rfl, rfl⟩) | go_in)
    go_ret
    exact ⟨rfl, rfl⟩
  · have e3 : bits BinOp.and .i64 64 63 = 0 := by decide +kernel
    go_enter Tryd.func6, Tryd.ntmps6
    go_wp2_with (first | (go_at_call 11; refine (tz_6 _ h).mono ?_; rintro e w' ⟨rfl, rfl⟩) | go_in)
    go_ret
    exact ⟨rfl, rfl⟩
  · have e3 : bits BinOp.and .i64 128 127 = 0 := by decide +kernel
    go_enter Tryd.func6, Tryd.ntmps6
    go_wp2_with (first | (go_at_call 11; refine (tz_7 _ h).mono ?_; rintro e w' ⟨rfl, rfl⟩) | go_in)
    go_ret
    exact ⟨rfl, rfl⟩
end Go.Proofs.YtbdnoiaglighhaaDoor
