/- The walks of packages quar and chac, and of the reference's functions of the same kind. No statement is proved here. -/
import Derived.Test.YtbdnoiaglighhaaLeY
import Derived.Test.YtbdnoiaglighhaaChac
import Derived.Test.YtbdnoiaglighhaaMix
namespace Go.Proofs.Ytbdnoiaglighhaa
set_option linter.unusedVariables false
set_option linter.unusedSimpArgs false
open Go.RowKit

def wrd (x : UInt32) : Value := .int .u32 (x.toNat : Int)
theorem rot_val (x : UInt32) (m n : Nat) : bits .or .u32 ((x.toNat : Int) * (m : Int) % 4294967296) ((x.toNat : Int) / (n : Int)) = ((rotl x m n).toNat : Int) := by
  rw [rotl_toNat, rotN, show ((x.toNat : Int) * (m : Int) % 4294967296) = ((x.toNat * m % 4294967296 : Nat) : Int) by rw [Int.natCast_emod, Int.natCast_mul]; rfl,
    show ((x.toNat : Int) / (n : Int)) = ((x.toNat / n : Nat) : Int) by rw [Int.natCast_ediv]]
  exact u32_or_nat _ _ (Nat.mod_lt _ (by omega)) (Nat.lt_of_le_of_lt (Nat.div_le_self _ _) x.toNat_lt)

set_option maxHeartbeats 400000 in
set_option maxRecDepth 100000 in
theorem rot16 (x : UInt32) (X : Int) (w : World) (hX : X = (x.toNat : Int)) :
    Calls Try.prog 113 #[.int .u32 X, .int .i64 16] w fun e w' => e = .returned (.int .u32 (rotl x 65536 65536).toNat) ∧ w = w' := by
  have hb : bits .and .u64 16 31 = 16 := by kernel_rfl
  have HV := Lib.hid (rot_val x 65536 65536)
  subst hX
  go_enter Try.func113, Try.ntmps113
  go_wp2
  go_ret
  exact ⟨ret_int HV.out, rfl⟩
set_option maxHeartbeats 400000 in
set_option maxRecDepth 100000 in
theorem left16 (x : UInt32) (X : Int) (w : World) (hX : X = (x.toNat : Int)) :
    Calls Try.prog 114 #[.int .u32 X, .int .i64 16] w fun e w' => e = .returned (.int .u32 (rotl x 65536 65536).toNat) ∧ w = w' := by
  have HV := Lib.hid (rot_val x 65536 65536)
  subst hX
  go_enter Try.func114, Try.ntmps114
  go_wp2
  go_ret
  exact ⟨ret_int HV.out, rfl⟩
set_option maxHeartbeats 400000 in
set_option maxRecDepth 100000 in
theorem rot12 (x : UInt32) (X : Int) (w : World) (hX : X = (x.toNat : Int)) :
    Calls Try.prog 113 #[.int .u32 X, .int .i64 12] w fun e w' => e = .returned (.int .u32 (rotl x 4096 1048576).toNat) ∧ w = w' := by
  have hb : bits .and .u64 12 31 = 12 := by kernel_rfl
  have HV := Lib.hid (rot_val x 4096 1048576)
  subst hX
  go_enter Try.func113, Try.ntmps113
  go_wp2
  go_ret
  exact ⟨ret_int HV.out, rfl⟩
set_option maxHeartbeats 400000 in
set_option maxRecDepth 100000 in
theorem left12 (x : UInt32) (X : Int) (w : World) (hX : X = (x.toNat : Int)) :
    Calls Try.prog 114 #[.int .u32 X, .int .i64 12] w fun e w' => e = .returned (.int .u32 (rotl x 4096 1048576).toNat) ∧ w = w' := by
  have HV := Lib.hid (rot_val x 4096 1048576)
  subst hX
  go_enter Try.func114, Try.ntmps114
  go_wp2
  go_ret
  exact ⟨ret_int HV.out, rfl⟩
set_option maxHeartbeats 400000 in
set_option maxRecDepth 100000 in
theorem rot8 (x : UInt32) (X : Int) (w : World) (hX : X = (x.toNat : Int)) :
    Calls Try.prog 113 #[.int .u32 X, .int .i64 8] w fun e w' => e = .returned (.int .u32 (rotl x 256 16777216).toNat) ∧ w = w' := by
  have hb : bits .and .u64 8 31 = 8 := by kernel_rfl
  have HV := Lib.hid (rot_val x 256 16777216)
  subst hX
  go_enter Try.func113, Try.ntmps113
  go_wp2
  go_ret
  exact ⟨ret_int HV.out, rfl⟩
set_option maxHeartbeats 400000 in
set_option maxRecDepth 100000 in
theorem left8 (x : UInt32) (X : Int) (w : World) (hX : X = (x.toNat : Int)) :
    Calls Try.prog 114 #[.int .u32 X, .int .i64 8] w fun e w' => e = .returned (.int .u32 (rotl x 256 16777216).toNat) ∧ w = w' := by
  have HV := Lib.hid (rot_val x 256 16777216)
  subst hX
  go_enter Try.func114, Try.ntmps114
  go_wp2
  go_ret
  exact ⟨ret_int HV.out, rfl⟩
set_option maxHeartbeats 400000 in
set_option maxRecDepth 100000 in
theorem rot7 (x : UInt32) (X : Int) (w : World) (hX : X = (x.toNat : Int)) :
    Calls Try.prog 113 #[.int .u32 X, .int .i64 7] w fun e w' => e = .returned (.int .u32 (rotl x 128 33554432).toNat) ∧ w = w' := by
  have hb : bits .and .u64 7 31 = 7 := by kernel_rfl
  have HV := Lib.hid (rot_val x 128 33554432)
  subst hX
  go_enter Try.func113, Try.ntmps113
  go_wp2
  go_ret
  exact ⟨ret_int HV.out, rfl⟩
set_option maxHeartbeats 400000 in
set_option maxRecDepth 100000 in
theorem left7 (x : UInt32) (X : Int) (w : World) (hX : X = (x.toNat : Int)) :
    Calls Try.prog 114 #[.int .u32 X, .int .i64 7] w fun e w' => e = .returned (.int .u32 (rotl x 128 33554432).toNat) ∧ w = w' := by
  have HV := Lib.hid (rot_val x 128 33554432)
  subst hX
  go_enter Try.func114, Try.ntmps114
  go_wp2
  go_ret
  exact ⟨ret_int HV.out, rfl⟩

theorem results_tmp4 {fn : Func} {t u v x : Tmp} (h : fn.results = #[.tmp t, .tmp u, .tmp v, .tmp x]) (tmps : Array Value) (P : Program) (w : World) :
    (results fn tmps).run P w = .ok (.tuple #[tmps.getD t undef, tmps.getD u undef, tmps.getD v undef, tmps.getD x undef]) w := by
  simp [results, h]
theorem ret4 {a b c d a' b' c' d' : Value} (h1 : a = a') (h2 : b = b') (h3 : c = c') (h4 : d = d') : Ending.returned (.tuple #[a, b, c, d]) = .returned (.tuple #[a', b', c', d']) := by subst h1; subst h2; subst h3; subst h4; rfl
theorem wrd_of {x : UInt32} {X : Int} (h : X = (x.toNat : Int)) : Value.int .u32 X = wrd x := by subst h; rfl
theorem add_val (x y : UInt32) : ((x.toNat : Int) + (y.toNat : Int)) % 4294967296 = ((x + y).toNat : Int) := by
  rw [UInt32.toNat_add, Int.natCast_emod, Int.natCast_add]; rfl
theorem add_val3 (x y z : UInt32) : ((x.toNat : Int) + (y.toNat : Int) + (z.toNat : Int)) % 4294967296 = ((x + y + z).toNat : Int) := by
  rw [← add_val (x + y), ← add_val]; omega
theorem xor_val (x y : UInt32) : bits .xor .u32 (x.toNat : Int) (y.toNat : Int) = ((x ^^^ y).toNat : Int) := by
  rw [UInt32.toNat_xor]; exact u32_xor_nat _ _ x.toNat_lt y.toNat_lt

set_option maxHeartbeats 400000 in
set_option maxRecDepth 100000 in
theorem round_calls (a b c d : UInt32) (w : World) :
    Calls Try.prog 110 #[.int .u32 (a.toNat : Int), .int .u32 (b.toNat : Int), .int .u32 (c.toNat : Int), .int .u32 (d.toNat : Int)] w fun e w' =>
      e = .returned (.tuple #[wrd (qr a b c d).1, wrd (qr a b c d).2.1, wrd (qr a b c d).2.2.1, wrd (qr a b c d).2.2.2]) ∧ w = w' := by
  obtain ⟨d1, hd1⟩ : ∃ d1, d1 = rotl (d ^^^ (a + b)) 65536 65536 := ⟨_, rfl⟩
  have Hd1 := fun X w h => rot16 (d ^^^ (a + b)) X w h
  rw [← hd1] at Hd1
  replace Hd1 := Lib.hid Hd1
  obtain ⟨b1, hb1⟩ : ∃ b1, b1 = rotl (b ^^^ (c + d1)) 4096 1048576 := ⟨_, rfl⟩
  have Hb1 := fun X w h => rot12 (b ^^^ (c + d1)) X w h
  rw [← hb1] at Hb1
  replace Hb1 := Lib.hid Hb1
  obtain ⟨d2, hd2⟩ : ∃ d2, d2 = rotl (d1 ^^^ (a + b + b1)) 256 16777216 := ⟨_, rfl⟩
  have Hd2 := fun X w h => rot8 (d1 ^^^ (a + b + b1)) X w h
  rw [← hd2] at Hd2
  replace Hd2 := Lib.hid Hd2
  obtain ⟨b2, hb2⟩ : ∃ b2, b2 = rotl (b1 ^^^ (c + d1 + d2)) 128 33554432 := ⟨_, rfl⟩
  have Hb2 := fun X w h => rot7 (b1 ^^^ (c + d1 + d2)) X w h
  rw [← hb2] at Hb2
  replace Hb2 := Lib.hid Hb2
  have hq : qr a b c d = (a + b + b1, b2, c + d1 + d2, d2) := by rw [hb2, hd2, hb1, hd1]; rfl
  rw [hq]
  clear hq hd1 hb1 hd2 hb2
  go_enter Try.func110, Try.ntmps110
  go_wp2_with fail
  refine (Hd1.out _ _ (by simp only [add_val3, add_val, xor_val])).mono ?_
  rintro e w1 ⟨rfl, rfl⟩
  go_wp2_with fail
  refine (Hb1.out _ _ (by simp only [add_val3, add_val, xor_val])).mono ?_
  rintro e w1 ⟨rfl, rfl⟩
  go_wp2_with fail
  refine (Hd2.out _ _ (by simp only [add_val3, add_val, xor_val])).mono ?_
  rintro e w1 ⟨rfl, rfl⟩
  go_wp2_with fail
  refine (Hb2.out _ _ (by simp only [add_val3, add_val, xor_val])).mono ?_
  rintro e w1 ⟨rfl, rfl⟩
  go_wp2_with fail
  refine bodyPost_ret (results_tmp4 rfl _ _ _) rfl ?_
  exact ⟨ret4 (wrd_of (by simp only [add_val3, add_val])) (wrd_of rfl) (wrd_of (by simp only [add_val3, add_val])) (wrd_of rfl), rfl⟩
set_option maxHeartbeats 400000 in
set_option maxRecDepth 100000 in
theorem rround_calls (a b c d : UInt32) (w : World) :
    Calls Try.prog 112 #[.int .u32 (a.toNat : Int), .int .u32 (b.toNat : Int), .int .u32 (c.toNat : Int), .int .u32 (d.toNat : Int)] w fun e w' =>
      e = .returned (.tuple #[wrd (qr a b c d).1, wrd (qr a b c d).2.1, wrd (qr a b c d).2.2.1, wrd (qr a b c d).2.2.2]) ∧ w = w' := by
  obtain ⟨d1, hd1⟩ : ∃ d1, d1 = rotl (d ^^^ (a + b)) 65536 65536 := ⟨_, rfl⟩
  have Hd1 := fun X w h => left16 (d ^^^ (a + b)) X w h
  rw [← hd1] at Hd1
  replace Hd1 := Lib.hid Hd1
  obtain ⟨b1, hb1⟩ : ∃ b1, b1 = rotl (b ^^^ (c + d1)) 4096 1048576 := ⟨_, rfl⟩
  have Hb1 := fun X w h => left12 (b ^^^ (c + d1)) X w h
  rw [← hb1] at Hb1
  replace Hb1 := Lib.hid Hb1
  obtain ⟨d2, hd2⟩ : ∃ d2, d2 = rotl (d1 ^^^ (a + b + b1)) 256 16777216 := ⟨_, rfl⟩
  have Hd2 := fun X w h => left8 (d1 ^^^ (a + b + b1)) X w h
  rw [← hd2] at Hd2
  replace Hd2 := Lib.hid Hd2
  obtain ⟨b2, hb2⟩ : ∃ b2, b2 = rotl (b1 ^^^ (c + d1 + d2)) 128 33554432 := ⟨_, rfl⟩
  have Hb2 := fun X w h => left7 (b1 ^^^ (c + d1 + d2)) X w h
  rw [← hb2] at Hb2
  replace Hb2 := Lib.hid Hb2
  have hq : qr a b c d = (a + b + b1, b2, c + d1 + d2, d2) := by rw [hb2, hd2, hb1, hd1]; rfl
  rw [hq]
  clear hq hd1 hb1 hd2 hb2
  go_enter Try.func112, Try.ntmps112
  go_wp2_with fail
  refine (Hd1.out _ _ (by simp only [add_val3, add_val, xor_val])).mono ?_
  rintro e w1 ⟨rfl, rfl⟩
  go_wp2_with fail
  refine (Hb1.out _ _ (by simp only [add_val3, add_val, xor_val])).mono ?_
  rintro e w1 ⟨rfl, rfl⟩
  go_wp2_with fail
  refine (Hd2.out _ _ (by simp only [add_val3, add_val, xor_val])).mono ?_
  rintro e w1 ⟨rfl, rfl⟩
  go_wp2_with fail
  refine (Hb2.out _ _ (by simp only [add_val3, add_val, xor_val])).mono ?_
  rintro e w1 ⟨rfl, rfl⟩
  go_wp2_with fail
  refine bodyPost_ret (results_tmp4 rfl _ _ _) rfl ?_
  exact ⟨ret4 (wrd_of (by simp only [add_val3, add_val])) (wrd_of rfl) (wrd_of (by simp only [add_val3, add_val])) (wrd_of rfl), rfl⟩

end Go.Proofs.Ytbdnoiaglighhaa
