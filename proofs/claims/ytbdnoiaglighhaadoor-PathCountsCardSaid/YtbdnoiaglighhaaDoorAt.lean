/- What package path reckons: At, Meet. No statement is proved here. -/
import Derived.Test.YtbdnoiaglighhaaDoorNum
import Derived.Deep.RegionWith
namespace Go.Proofs.YtbdnoiaglighhaaDoor
set_option linter.unusedVariables false
set_option linter.unusedSimpArgs false
open Go.RowKit

/-- So many leaves there may be. -/
def May (N : Int) : Prop := 1 ≤ N ∧ N ≤ 128 ∧ bits BinOp.and .i64 N (N - 1) = 0
theorem may_two (b : Nat) (hb : b < 8) : May ((2 ^ b : Nat) : Int) := by
  obtain rfl | rfl | rfl | rfl | rfl | rfl | rfl | rfl : b = 0 ∨ b = 1 ∨ b = 2 ∨ b = 3 ∨ b = 4 ∨ b = 5 ∨ b = 6 ∨ b = 7 := by omega
  all_goals exact ⟨by decide, by decide, by decide +kernel⟩
set_option maxRecDepth 100000 in
theorem leaves_calls (N : Int) (h : May N) (w : World) : Calls Tryd.prog 10 #[.int .i64 N] w fun e w' => e = .returned (.bool true) ∧ w = w' := by
  obtain ⟨h1, h2, h3⟩ := h
  have h4 : (N : Int) ≤ 65536 := by omega
  go_enter Tryd.func10, Tryd.ntmps10
  go_wp2
  go_ret
  exact ⟨rfl, rfl⟩
set_option maxRecDepth 100000 in
theorem has_calls (N i : Int) (h : May N) (hi : 0 ≤ i ∧ i < N) (w : World) : Calls Tryd.prog 8 #[.int .i64 N, .int .i64 i] w fun e w' => e = .returned (.bool true) ∧ w = w' := by
  have HM := Lib.hid h
  have h1 := h.1
  have h2 := h.2.1
  clear h
  go_enter Tryd.func8, Tryd.ntmps8
  go_wp2_with (first | (go_at_call 10; refine (leaves_calls _ HM.out _).mono ?_; rintro e w' ⟨rfl, rfl⟩))
  go_ret
  exact ⟨rfl, rfl⟩
theorem two_pos (n : Nat) : (1 : Int) ≤ 2 ^ n := by
  have : (1 : Nat) ≤ 2 ^ n := Nat.one_le_two_pow
  have h : ((2 ^ n : Nat) : Int) = (2 : Int) ^ n := by simp
  omega
theorem two_le (n m : Nat) (h : n ≤ m) : (2 : Int) ^ n ≤ 2 ^ m := by
  have : (2 : Nat) ^ n ≤ 2 ^ m := Nat.pow_le_pow_right (by decide) h
  have h : ((2 ^ n : Nat) : Int) = (2 : Int) ^ n := by simp
  have h' : ((2 ^ m : Nat) : Int) = (2 : Int) ^ m := by simp
  omega
theorem at_wraps (b : Nat) (hb : b < 8) (l : Nat) (hl : l ≤ b) (i : Int) (h0 : 0 ≤ i) (hi : i < ((2 ^ b : Nat) : Int)) : wrap64 (wrap64 (wrap64 (2 ^ l) - 1) + i / 2 ^ (b - l)) = 2 ^ l - 1 + i / 2 ^ (b - l) := by
  have h1 := two_pos l
  have h2 := two_le l 7 (by omega)
  have h3 : (0 : Int) ≤ i / 2 ^ (b - l) := Int.ediv_nonneg h0 (by have := two_pos (b - l); omega)
  have h4 : i / 2 ^ (b - l) ≤ i := Int.ediv_le_self _ h0
  have h5 : ((2 ^ b : Nat) : Int) ≤ 2 ^ 7 := by have := two_le b 7 (by omega); simpa using this
  generalize (2 : Int) ^ l = x at *
  generalize i / 2 ^ (b - l) = y at *
  generalize ((2 ^ b : Nat) : Int) = z at *
  rw [IntWalk.wrap64_in x ⟨by omega, by omega⟩, IntWalk.wrap64_in (x - 1) ⟨by omega, by omega⟩, IntWalk.wrap64_in _ ⟨by omega, by omega⟩]
set_option maxRecDepth 100000 in
theorem at_calls (b : Nat) (hb : b < 8) (N i : Int) (hN : N = ((2 ^ b : Nat) : Int)) (l : Nat) (hl : l ≤ b) (hi : 0 ≤ i ∧ i < N) (w : World) (h : Tab w) :
    Calls Tryd.prog 4 #[.int .i64 N, .int .i64 i, .int .i64 (l : Int)] w fun e w' => e = .returned (.tuple #[.int .i64 ((2 : Int) ^ l - 1 + i / 2 ^ (b - l)), .bool true]) ∧ ∃ m, w' = w.drewN m := by
  have HT := Lib.hid h
  have hm := may_two b hb
  rw [← hN] at hm
  have HM := Lib.hid hm
  have HN := Lib.hid hN
  have h1 := hm.1
  have h2 := hm.2.1
  have hl2 : ¬ (b : Int) < (l : Int) := by omega
  have hl0 : (0 : Int) ≤ (l : Int) := by omega
  have hd := depth_calls b hb w HT.out
  rw [← hN] at hd
  have HD := Lib.hid hd
  clear hm hd hN h
  go_enter Tryd.func4, Tryd.ntmps4
  go_wp2_with (first
    | (go_at_call 6; refine HD.out.mono ?_; rintro e w' ⟨rfl, rfl⟩)
    | (go_at_call 8; refine (has_calls _ _ HM.out hi _).mono ?_; rintro e w' ⟨rfl, rfl⟩))
  go_quiet (fail)
  go_wp2
  have e := at_wraps b hb l hl i hi.1 (by rw [← HN.out]; exact hi.2)
  rw [e]
  go_ret2
  exact ⟨rfl, nq, rfl⟩

/-- How many places a number has: by the library's table. -/
def longOf (x : Nat) : Nat := if x = 0 then 0 else Nat.log2 x + 1
/-- The library's table. -/
def tabB : ByteArray := ⟨#[0, 1, 2, 2, 3, 3, 3, 3, 4, 4, 4, 4, 4, 4, 4, 4, 5, 5, 5, 5, 5, 5, 5, 5, 5, 5, 5, 5, 5, 5, 5, 5, 6, 6, 6, 6, 6, 6, 6, 6, 6, 6, 6, 6, 6, 6, 6, 6, 6, 6, 6, 6, 6, 6, 6, 6, 6, 6, 6, 6, 6, 6, 6, 6, 7, 7, 7, 7, 7, 7, 7, 7, 7, 7, 7, 7, 7, 7, 7, 7, 7, 7, 7, 7, 7, 7, 7, 7, 7, 7, 7, 7, 7, 7, 7, 7, 7, 7, 7, 7, 7, 7, 7, 7, 7, 7, 7, 7, 7, 7, 7, 7, 7, 7, 7, 7, 7, 7, 7, 7, 7, 7, 7, 7, 7, 7, 7, 7, 8, 8, 8, 8, 8, 8, 8, 8, 8, 8, 8, 8, 8, 8, 8, 8, 8, 8, 8, 8, 8, 8, 8, 8, 8, 8, 8, 8, 8, 8, 8, 8, 8, 8, 8, 8, 8, 8, 8, 8, 8, 8, 8, 8, 8, 8, 8, 8, 8, 8, 8, 8, 8, 8, 8, 8, 8, 8, 8, 8, 8, 8, 8, 8, 8, 8, 8, 8, 8, 8, 8, 8, 8, 8, 8, 8, 8, 8, 8, 8, 8, 8, 8, 8, 8, 8, 8, 8, 8, 8, 8, 8, 8, 8, 8, 8, 8, 8, 8, 8, 8, 8, 8, 8, 8, 8, 8, 8, 8, 8, 8, 8, 8, 8, 8, 8, 8, 8, 8, 8, 8, 8, 8, 8, 8, 8, 8, 8]⟩
theorem len_tab : ∀ x (hx : x < 128) (hp : x < tabB.size), wrap64 (wrap64 ((tabB[x]'hp).toNat : Int)) = (longOf x : Int) := by decide +kernel
theorem ret_int {k : IntKind} {a b : Int} (h : a = b) : Ending.returned (.int k a) = .returned (.int k b) := by rw [h]
set_option maxRecDepth 100000 in
theorem len64_calls (x : Nat) (hx : x < 128) (w : World) : Calls Tryd.prog 16 #[.int .u64 (x : Int)] w fun e w' => e = .returned (.int .i64 (longOf x : Int)) ∧ w = w' := by
  have h1 : ¬ (4294967296 : Int) ≤ (x : Int) := by omega
  have h2 : ¬ (65536 : Int) ≤ (x : Int) := by omega
  have h3 : ¬ (256 : Int) ≤ (x : Int) := by omega
  go_enter Tryd.func16, Tryd.ntmps16
  go_wp2
  go_ret
  refine ⟨ret_int ?_, rfl⟩
  exact len_tab x hx _
set_option maxRecDepth 100000 in
theorem len_calls (x : Nat) (hx : x < 128) (w : World) : Calls Tryd.prog 9 #[.int .u64 (x : Int)] w fun e w' => e = .returned (.int .i64 (longOf x : Int)) ∧ w = w' := by
  have HX := Lib.hid hx
  clear hx
  go_enter Tryd.func9, Tryd.ntmps9
  go_wp2_with (first | (go_at_call 16; refine (len64_calls x HX.out _).mono ?_; rintro e w' ⟨rfl, rfl⟩))
  go_ret
  exact ⟨rfl, rfl⟩
/-- How deep two leaves meet. -/
def meetOf (b x y : Nat) : Int := (b : Int) - longOf (x ^^^ y)
theorem xor_i64 (x y : Nat) (hx : x < 128) (hy : y < 128) : bits BinOp.xor .i64 (x : Int) (y : Int) = ((x ^^^ y : Nat) : Int) := by
  show IntKind.i64.wrap ((BitVec.ofInt 64 (x : Int) ^^^ BitVec.ofInt 64 (y : Int)).toNat : Nat) = _
  have h : x ^^^ y < 2 ^ 7 := Nat.xor_lt_two_pow hx hy
  rw [BitVec.toNat_xor, BitVec.toNat_ofInt, BitVec.toNat_ofInt, IntKind.wrap_i64]
  have e1 : ((x : Int) % ((2 ^ 64 : Nat) : Int)).toNat = x := by omega
  have e2 : ((y : Int) % ((2 ^ 64 : Nat) : Int)).toNat = y := by omega
  rw [e1, e2]
  omega
set_option maxHeartbeats 1000000 in
set_option maxRecDepth 100000 in
theorem meet_calls (b : Nat) (hb : b < 8) (N : Int) (hN : N = ((2 ^ b : Nat) : Int)) (x y : Nat) (hx : (x : Int) < N) (hy : (y : Int) < N) (w : World) (h : Tab w) :
    Calls Tryd.prog 5 #[.int .i64 N, .int .i64 (x : Int), .int .i64 (y : Int)] w fun e w' => e = .returned (.int .i64 (meetOf b x y)) ∧ w = w' := by
  have hm := may_two b hb
  rw [← hN] at hm
  have hd := depth_calls b hb w h
  rw [← hN] at hd
  have HD := Lib.hid hd
  have HM := Lib.hid hm
  have h128 := hm.2.1
  have hx1 := xor_i64 x y (by omega) (by omega)
  have HX := Lib.hid (show x ^^^ y < 128 from Nat.xor_lt_two_pow (n := 7) (by omega) (by omega))
  have HL := Lib.hid (show (longOf (x ^^^ y) : Int) ≤ 7 ∧ (0 : Int) ≤ longOf (x ^^^ y) by
    have : ∀ z, z < 128 → longOf z ≤ 7 := by decide +kernel
    have := this _ HX.out
    omega)
  have hw1 : IntKind.u64.wrap ((x ^^^ y : Nat) : Int) = ((x ^^^ y : Nat) : Int) := by have := HX.out; rw [IntKind.wrap_u64]; omega
  clear hm hd h hN
  have hx0 : (0 : Int) ≤ (x : Int) := by omega
  have hy0 : (0 : Int) ≤ (y : Int) := by omega
  go_enter Tryd.func5, Tryd.ntmps5
  go_wp2_with (first
    | (go_at_call 6; refine HD.out.mono ?_; rintro e w' ⟨rfl, rfl⟩)
    | (go_at_call_of 8 (Value.int IntKind.i64 (x : Int)); refine (has_calls _ _ HM.out ⟨hx0, hx⟩ _).mono ?_; rintro e w' ⟨rfl, rfl⟩)
    | (go_at_call_of 8 (Value.int IntKind.i64 (y : Int)); refine (has_calls _ _ HM.out ⟨hy0, hy⟩ _).mono ?_; rintro e w' ⟨rfl, rfl⟩)
    | (go_at_call 9; refine (len_calls _ HX.out _).mono ?_; rintro e w' ⟨rfl, rfl⟩))
  go_ret
  refine ⟨ret_int ?_, rfl⟩
  have := HL.out
  unfold meetOf
  first | rfl | (rw [IntWalk.wrap64_in _ ⟨by omega, by omega⟩])
end Go.Proofs.YtbdnoiaglighhaaDoor
