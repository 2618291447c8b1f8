/- The walks of package le, and of the reference's functions of the same kind: each answers what the plain function says. No statement is proved here. -/
import Derived.Test.YtbdnoiaglighhaaLaws
import Derived.Test.YtbdnoiaglighhaaLe
namespace Go.Proofs.Ytbdnoiaglighhaa
set_option linter.unusedVariables false
set_option linter.unusedSimpArgs false
open Go.RowKit

theorem S41 : SliceOf Try.prog 41 5 (.int .u8 0) 1 1 := ⟨Try.underlying41, by kernel_rfl, rfl, by decide⟩
theorem ret_val {a b : Value} (h : a = b) : Ending.returned a = .returned b := by rw [h]
theorem ret_int {k : IntKind} {a b : Int} (h : a = b) : Ending.returned (.int k a) = .returned (.int k b) := by rw [h]
theorem ret_bool {a b : Bool} (h : a = b) : Ending.returned (.bool a) = .returned (.bool b) := by rw [h]

theorem rd_byte {w : World} {A : Option Addr} {l : List UInt8} (hr : Rd w A (bs l)) {k : Nat} (hk : k < l.length) : ∃ b o, A = some ⟨b, o, none⟩ ∧ w.cell? ⟨b, o + k, none⟩ = some (.int .u8 (l[k].toNat : Int)) := by
  obtain ⟨b, o, rfl, hcell⟩ := hr.cell (k := k) (by simpa using hk)
  exact ⟨b, o, rfl, by rw [hcell]; simp [byt]⟩
theorem rd_byteN {w : World} {A : Option Addr} {l : List UInt8} (hr : Rd w A (bs l)) {k : Nat} (hk : k < l.length) : ∃ b o, A = some ⟨b, o, none⟩ ∧ ∃ x : Nat, x = l[k].toNat ∧ x < 256 ∧ w.cell? ⟨b, o + k, none⟩ = some (.int .u8 (x : Int)) := by
  obtain ⟨b, o, rfl, hcell⟩ := rd_byte hr hk
  exact ⟨b, o, rfl, _, rfl, byte_lt _, hcell⟩
theorem bs_append (a b : List UInt8) : bs (a ++ b) = bs a ++ bs b := List.map_append
theorem bs_one' (x : UInt8) : bs [x] = [byt x] := rfl
theorem bs_length (l : List UInt8) : (bs l).length = l.length := List.length_map ..

/-! ### Put -/
theorem put_mod (n k : Nat) : (((n / 256 ^ k : Nat) : Int) % 256) = ((UInt8.ofNat (n / 256 ^ k)).toNat : Int) := by
  have e : (UInt8.ofNat (n / 256 ^ k)).toNat = n / 256 ^ k % 256 := UInt8.toNat_ofNat'
  rw [e]; omega

set_option maxHeartbeats 400000 in
set_option maxRecDepth 100000 in
theorem put_calls (n k : Nat) (w : World) (hk8 : k ≤ 8) :
    Calls Try.prog 81 #[.int .u64 (n : Int), .int .i64 (k : Int)] w fun e w' =>
      ∃ v, e = .returned v ∧ w'.ownsRow w.heap.size 5 1 v k (bs (putB n k)) ∧ Below w.heap.size w w' := by
  have hc : ¬ ((k : Int) > 8) := by omega
  go_enter Try.func81, Try.ntmps81
  go_wp2
  go_loopw [0, 5, 13] (fun vn out i wr => ∃ j : Nat, j ≤ k ∧ i = .int .i64 (j : Int) ∧ vn = .int .u64 ((n / 256 ^ j : Nat) : Int) ∧ wr.ownsRow w.heap.size 5 1 out j (bs (putB n j)) ∧ Below w.heap.size w wr) (fun _ _ i _ => k - (intOf i).toNat)
  case atStart => exact ⟨0, Nat.zero_le _, rfl, by simp, World.ownsRow_nil _ _ _ _, Below.refl _ _⟩
  case round =>
    obtain ⟨j, hj, rfl, rfl, hown, hbel⟩ := hrel
    by_cases hlt : j < k
    · have hq : n / 256 ^ (j + 1) = n / 256 ^ j / 256 := by rw [Nat.pow_succ, Nat.div_div_eq_div_mul]
      have Hq := Lib.hid hq
      clear hq
      have Hm := Lib.hid (put_mod n j)
      generalize hN : n / 256 ^ j = N at *
      have HN := Lib.hid hN
      clear hN
      have hsz := hbel.size
      go_wp2_with (first
        | (at_builtin; refine wpList_app1 S41 rfl _ _ rfl rfl rfl (cs := #[.int .u8 ((N : Int) % 256)]) rfl hown rfl (by simp [Value.oneCell']) (by omega) (by unfold maxLen; omega) hsz ?_; intro v' w1 hown' hgrow _))
      have hb' : Below w.heap.size w w1 := (hbel.alloc hsz _).grown hgrow (by simp; omega) (fun j hj => (hown.lt j hj).1)
      clear hgrow
      go_wp2
      go_roundw
      case rel => exact ⟨j + 1, by omega, by go_num, by rw [Hq.out]; go_num, by rw [putB, HN.out, bs_append, bs_one', byt, ← Hm.out]; exact hown', hb'⟩
      case measure => simp [intOf]; omega
    · obtain rfl : j = k := by omega
      go_wp2
      go_ret
      exact ⟨_, rfl, hown, hbel⟩

theorem pow_div (n j : Nat) : ((n : Int) / 2 ^ (8 * j)) = ((n / 256 ^ j : Nat) : Int) := by
  rw [show (256 : Nat) = 2 ^ 8 by rfl, ← Nat.pow_mul]; simp

set_option maxHeartbeats 400000 in
set_option maxRecDepth 100000 in
theorem rput_calls (n k : Nat) (w : World) (hk8 : k ≤ 8) :
    Calls Try.prog 92 #[.int .u64 (n : Int), .int .i64 (k : Int)] w fun e w' =>
      ∃ v, e = .returned v ∧ w'.ownsRow w.heap.size 5 1 v k (bs (putB n k)) ∧ Below w.heap.size w w' := by
  have hc : ¬ ((k : Int) > 8) := by omega
  go_enter Try.func92, Try.ntmps92
  go_wp2
  go_loopw [5, 6] (fun out i wr => ∃ j : Nat, j ≤ k ∧ i = .int .i64 (j : Int) ∧ wr.ownsRow w.heap.size 5 1 out j (bs (putB n j)) ∧ Below w.heap.size w wr) (fun _ i _ => k - (intOf i).toNat)
  case atStart => exact ⟨0, Nat.zero_le _, rfl, World.ownsRow_nil _ _ _ _, Below.refl _ _⟩
  case round =>
    obtain ⟨j, hj, rfl, hown, hbel⟩ := hrel
    by_cases hlt : j < k
    · have hsz := hbel.size
      have Hp := Lib.hid (pow_div n j)
      have Hm := Lib.hid (put_mod n j)
      go_wp2_with (first
        | (at_builtin; refine wpList_app1 S41 rfl _ _ rfl rfl rfl (cs := #[.int .u8 ((n : Int) / 2 ^ (8 * j) % 256)]) rfl hown rfl (by simp [Value.oneCell']) (by omega) (by unfold maxLen; omega) hsz ?_; intro v' w1 hown' hgrow _))
      have hb' : Below w.heap.size w w1 := (hbel.alloc hsz _).grown hgrow (by simp; omega) (fun j hj => (hown.lt j hj).1)
      clear hgrow
      go_wp2
      go_roundw
      case rel => exact ⟨j + 1, by omega, by go_num, by rw [putB, bs_append, bs_one', byt, ← Hm.out, ← Hp.out]; exact hown', hb'⟩
      case measure => simp [intOf]; omega
    · obtain rfl : j = k := by omega
      go_wp2
      go_ret
      exact ⟨_, rfl, hown, hbel⟩

/-! ### Get -/
theorem or_get (G x : Nat) (hG : G ≤ 72057594037927935) (hx : x < 256) : bits .or .u64 ((G : Int) * 256) (x : Int) = ((x + 256 * G : Nat) : Int) := by
  rw [show ((G : Int) * 256) = ((G * 256 : Nat) : Int) by omega, u64_or_nat _ _ (by omega) (by omega)]
  congr 1
  rw [show G * 256 = G <<< 8 by rw [Nat.shiftLeft_eq], ← Nat.shiftLeft_add_eq_or_of_lt (by omega)]
  rw [Nat.shiftLeft_eq]; omega
theorem get_step (l : List UInt8) (j : Nat) (hj : j < l.length) (h8 : j < 8) : getB ((l.take 8).drop j) = l[j].toNat + 256 * getB ((l.take 8).drop (j + 1)) := by
  rw [List.drop_eq_getElem_cons (by simp; omega), getB]; simp
theorem get_lt7 (l : List UInt8) (k : Nat) (h : k < l.length) (hl : l.length ≤ 8) : getB (l.drop (k + 1)) ≤ 72057594037927935 := by
  have h1 := getB_lt (l.drop (k + 1))
  have h2 : 256 ^ (l.drop (k + 1)).length ≤ 256 ^ 7 := Nat.pow_le_pow_right (by decide) (by simp; omega)
  omega

set_option maxHeartbeats 400000 in
set_option maxRecDepth 100000 in
theorem get_calls (A : Option Addr) (c : Nat) (l : List UInt8) (w : World) (hr : Rd w A (bs l)) (hl : l.length ≤ 140737488351232) :
    Calls Try.prog 86 #[.slice A l.length c] w fun e w' => e = .returned (.int .u64 (getB (l.take 8) : Nat)) ∧ w = w' := by
  obtain ⟨d, hd, hd8, hdl, hor⟩ : ∃ d, (l.take 8).length = d ∧ d ≤ 8 ∧ d ≤ l.length ∧ (8 < l.length ∧ d = 8 ∨ ¬ 8 < l.length ∧ d = l.length) := ⟨_, rfl, by simp; omega, by simp; omega, by simp; omega⟩
  have HD := Lib.hid hd
  clear hd
  rcases hor with ⟨h8, rfl⟩ | ⟨h8, rfl⟩
  all_goals
    go_enter Try.func86, Try.ntmps86
    go_wp2
    go_loop [3, 4] (fun out i => ∃ k : Nat, k ≤ (l.take 8).length ∧ i = .int .i64 ((k : Int) - 1) ∧ out = .int .u64 ((getB ((l.take 8).drop k) : Nat) : Int)) (fun _ i => (intOf i + 1).toNat)
    case atStart => exact ⟨(l.take 8).length, Nat.le_refl _, by rw [HD.out]; try rfl, by rw [List.drop_length]; rfl⟩
    case round =>
      obtain ⟨k, hk, rfl, rfl⟩ := hrel
      rcases Nat.eq_zero_or_pos k with rfl | hk0
      · go_wp2
        go_ret
        exact ⟨rfl, rfl⟩
      · obtain ⟨j, rfl⟩ : ∃ j, k = j + 1 := ⟨k - 1, by omega⟩
        have hb := get_lt7 (l.take 8) j (by omega) (by simp; omega)
        have hjl : j < l.length := by simp at hk; omega
        obtain ⟨b, o, rfl, hcell⟩ := rd_byte hr hjl
        generalize hG : getB ((l.take 8).drop (j + 1)) = G at *
        have HG := Lib.hid hG
        clear hG
        have h256 := byte_lt l[j]
        go_wp2
        go_round
        case rel => exact ⟨j, by omega, rfl, by rw [or_get G _ hb h256, get_step l j hjl (by simp at hk; omega), HG.out]⟩
        case measure => simp [intOf]

theorem or_get2 (G x k : Nat) (hk : k < 8) (hx : x < 256) (hG : G < 256 ^ k) : bits .or .u64 (G : Int) (IntKind.u64.wrap ((x : Int) * 2 ^ (8 * k))) = ((G + 256 ^ k * x : Nat) : Int) := by
  have hp : 256 ^ k = 2 ^ (8 * k) := by rw [show (256 : Nat) = 2 ^ 8 by rfl, ← Nat.pow_mul]
  have hp7 : 256 ^ k ≤ 256 ^ 7 := Nat.pow_le_pow_right (by decide) (by omega)
  have hm : x * 256 ^ k ≤ 255 * 256 ^ 7 := Nat.mul_le_mul (by omega) hp7
  have e : ((x : Int) * 2 ^ (8 * k)) = ((x * 256 ^ k : Nat) : Int) := by rw [hp]; simp
  have hm' : x * 256 ^ k ≤ 18374686479671623680 := hm
  have hG' : G < 72057594037927936 := Nat.lt_of_lt_of_le hG hp7
  rw [e, IntWalk.u64_in _ (by omega), u64_or_nat _ _ (by omega) (by omega)]
  congr 1
  rw [Nat.or_comm, hp, ← Nat.shiftLeft_eq, ← Nat.shiftLeft_add_eq_or_of_lt (by rw [← hp]; exact hG), Nat.shiftLeft_eq, Nat.mul_comm x]; omega
theorem take_lt (l : List UInt8) (k : Nat) (hk : k ≤ l.length) : getB (l.take k) < 256 ^ k := by
  have := getB_lt (l.take k)
  rwa [List.length_take, Nat.min_eq_left hk] at this
theorem getB_succ (l : List UInt8) (k : Nat) (hk : k < l.length) : getB (l.take (k + 1)) = getB (l.take k) + 256 ^ k * l[k].toNat := by
  rw [List.take_succ_eq_append_getElem hk, getB_append, List.length_take, Nat.min_eq_left (by omega)]
  simp [getB]

set_option maxHeartbeats 400000 in
set_option maxRecDepth 100000 in
theorem rget_calls (A : Option Addr) (c : Nat) (l : List UInt8) (w : World) (hr : Rd w A (bs l)) (hl : l.length ≤ 140737488351232) :
    Calls Try.prog 89 #[.slice A l.length c] w fun e w' => e = .returned (.int .u64 (getB (l.take 8) : Nat)) ∧ w = w' := by
  go_enter Try.func89, Try.ntmps89
  go_wp2
  go_loop [3, 4] (fun out i => ∃ k : Nat, k ≤ l.length ∧ k ≤ 8 ∧ i = .int .i64 (k : Int) ∧ out = .int .u64 ((getB (l.take k) : Nat) : Int)) (fun _ i => l.length - (intOf i).toNat)
  case atStart => exact ⟨0, Nat.zero_le _, by omega, rfl, rfl⟩
  case round =>
    obtain ⟨k, hk, hk8, rfl, rfl⟩ := hrel
    by_cases hlt : k < l.length
    · by_cases h8 : k < 8
      · obtain ⟨b, o, rfl, hcell⟩ := rd_byte hr hlt
        have h256 := byte_lt l[k]
        generalize hG : getB (l.take k) = G at *
        have HG := Lib.hid hG
        clear hG
        go_wp2
        go_round
        case rel => exact ⟨k + 1, by omega, by omega, by go_num, by rw [or_get2 G _ k h8 h256 (by rw [← HG.out]; exact take_lt l k hk), getB_succ l k hlt, HG.out]⟩
        case measure => simp [intOf]; omega
      · obtain rfl : k = 8 := by omega
        go_wp2
        go_ret
        exact ⟨rfl, rfl⟩
    · obtain rfl : k = l.length := by omega
      rw [List.take_of_length_le (by omega)]
      go_wp2
      go_ret
      exact ⟨by rw [List.take_of_length_le (by omega)]; rfl, rfl⟩

/-! ### Zero -/
theorem all_snoc (l : List UInt8) (p : UInt8 → Bool) (k : Nat) (hk : k < l.length) : (l.take (k + 1)).all p = ((l.take k).all p && p l[k]) := by
  rw [List.take_succ_eq_append_getElem hk, List.all_append]; simp
theorem beq_byte (x : UInt8) : (x == 0) = ((x.toNat : Int) == 0) := by
  rw [Bool.eq_iff_iff]; simp [← UInt8.toNat_inj]

set_option maxHeartbeats 400000 in
theorem zero_calls (A : Option Addr) (c : Nat) (l : List UInt8) (w : World) (hr : Rd w A (bs l)) (hl : l.length ≤ 140737488351232) :
    Calls Try.prog 94 #[.slice A l.length c] w fun e w' => e = .returned (.bool (l.all (· == 0))) ∧ w = w' := by
  go_enter Try.func94, Try.ntmps94
  go_wp2
  go_loop [4, 7] (fun _ i => ∃ k : Nat, k ≤ l.length ∧ i = .int .i64 k ∧ (l.take k).all (· == 0) = true) (fun _ i => l.length - (intOf i).toNat)
  case atStart => exact ⟨0, Nat.zero_le _, rfl, rfl⟩
  case round =>
    obtain ⟨k, hk, rfl, hall⟩ := hrel
    by_cases hlt : k < l.length
    · obtain ⟨b, o, rfl, hcell⟩ := rd_byte hr hlt
      by_cases h0 : l[k].toNat = 0
      · have h1 : ((l[k].toNat : Int) != 0) = false := by simp [h0]
        have HA := Lib.hid hall
        have H0 := Lib.hid h0
        clear hall h0
        go_wp2
        go_round
        case rel => exact ⟨k + 1, by omega, by go_num, by rw [all_snoc _ _ _ hlt, HA.out, beq_byte, H0.out]; rfl⟩
        case measure => simp [intOf]; omega
      · have h1 : ((l[k].toNat : Int) != 0) = true := by simp; omega
        have H0 := Lib.hid h0
        clear hall h0
        go_wp2
        go_ret
        refine ⟨ret_bool ?_, rfl⟩
        symm
        rw [List.all_eq_false]; refine ⟨l[k], List.getElem_mem _, ?_⟩
        rw [beq_byte]; have := H0.out; simp; omega
    · go_wp2
      go_ret
      rw [List.take_of_length_le (by omega)] at hall
      exact ⟨ret_bool hall.symm, rfl⟩

/-! ### Equal, Same -/
set_option maxHeartbeats 400000 in
set_option maxRecDepth 100000 in
theorem equal_calls (A B : Option Addr) (c d : Nat) (l m : List UInt8) (w : World) (hl : Rd w A (bs l)) (hm : Rd w B (bs m)) :
    Calls Try.prog 85 #[.slice A l.length c, .slice B m.length d] w fun e w' => e = .returned (.bool (l == m)) ∧ w = w' := by
  have h1 := run_bytes_string (P := Try.prog) Try.underlying41 Try.underlying5 Try.underlying9 hl c
  have h2 := run_bytes_string (P := Try.prog) Try.underlying41 Try.underlying5 Try.underlying9 hm d
  go_enter Try.func85, Try.ntmps85
  go_wp2
  go_ret
  exact ⟨rfl, rfl⟩
set_option maxHeartbeats 400000 in
set_option maxRecDepth 100000 in
theorem same_calls (A B : Option Addr) (c d : Nat) (l m : List UInt8) (w : World) (hl : Rd w A (bs l)) (hm : Rd w B (bs m)) :
    Calls Try.prog 37 #[.slice A l.length c, .slice B m.length d] w fun e w' => e = .returned (.bool (l == m)) ∧ w = w' := by
  have h1 := run_bytes_string (P := Try.prog) Try.underlying41 Try.underlying5 Try.underlying9 hl c
  have h2 := run_bytes_string (P := Try.prog) Try.underlying41 Try.underlying5 Try.underlying9 hm d
  go_enter Try.func37, Try.ntmps37
  go_wp2
  go_ret
  exact ⟨rfl, rfl⟩

/-! ### Sum -/
theorem sum_val (H x : Nat) (hH : H < 18446744073709551616) (hx : x < 256) : IntKind.u64.wrap (bits .xor .u64 (H : Int) (x : Int) * 1099511628211) = ((((H ^^^ x) * 1099511628211) % 18446744073709551616 : Nat) : Int) := by
  rw [u64_xor_nat _ _ hH (by omega)]
  generalize H ^^^ x = Y
  rw [IntKind.wrap_u64, Int.natCast_emod, Int.natCast_mul]; rfl
theorem sumB_succ (l : List UInt8) (k : Nat) (hk : k < l.length) : sumB (l.take (k + 1)) = sumStep (sumB (l.take k)) l[k] := by
  unfold sumB
  rw [List.take_succ_eq_append_getElem hk, List.foldl_append, List.foldl_cons, List.foldl_nil]

set_option maxHeartbeats 400000 in
set_option maxRecDepth 100000 in
theorem rsum_calls (A : Option Addr) (c : Nat) (l : List UInt8) (w : World) (hr : Rd w A (bs l)) (hl : l.length ≤ 140737488351232) :
    Calls Try.prog 90 #[.slice A l.length c] w fun e w' => e = .returned (.int .u64 (sumB l : Nat)) ∧ w = w' := by
  go_enter Try.func90, Try.ntmps90
  go_wp2
  go_loop [3, 4] (fun out i => ∃ k : Nat, k ≤ l.length ∧ i = .int .i64 (k : Int) ∧ out = .int .u64 ((sumB (l.take k) : Nat) : Int)) (fun _ i => l.length - (intOf i).toNat)
  case atStart => exact ⟨0, Nat.zero_le _, rfl, rfl⟩
  case round =>
    obtain ⟨k, hk, rfl, rfl⟩ := hrel
    by_cases hlt : k < l.length
    · obtain ⟨b, o, rfl, hcell⟩ := rd_byte hr hlt
      have h256 := byte_lt l[k]
      have HS := Lib.hid (sumB_succ l k hlt)
      have HL := Lib.hid (sumB_lt (l.take k))
      generalize sumB (l.take k) = H at *
      go_wp2
      go_round
      case rel => exact ⟨k + 1, by omega, by go_num, by rw [HS.out, sumStep, ← sum_val _ _ HL.out h256]⟩
      case measure => simp [intOf]; omega
    · obtain rfl : k = l.length := by omega
      go_wp2
      go_ret
      exact ⟨rfl, rfl⟩

end Go.Proofs.Ytbdnoiaglighhaa
