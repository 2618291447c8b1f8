/- The walk of package boot's Parse. No statement is proved here. -/
import Derived.Test.YtbdnoiaglighhaaBootP
namespace Go.Proofs.Ytbdnoiaglighhaa
set_option linter.unusedVariables false
set_option linter.unusedSimpArgs false
set_option linter.constructorNameAsVariable false
open Go.RowKit Go.Maps

/-- What Parse hands back. -/
def ParsedIs (b : List UInt8) (e : Ending) : Prop := match parseB b with
  | some n => e = .returned (.tuple #[.int .u32 (n : Int), .bool true])
  | none => e = .returned (.tuple #[.int .u32 0, .bool false])
theorem parsed_none {b : List UInt8} {e : Ending} (h : parseB b = none) (he : e = .returned (.tuple #[.int .u32 0, .bool false])) : ParsedIs b e := by unfold ParsedIs; rw [h]; exact he
theorem parsed_some {b : List UInt8} {n : Nat} {e : Ending} (h : parseB b = some n) (he : e = .returned (.tuple #[.int .u32 (n : Int), .bool true])) : ParsedIs b e := by unfold ParsedIs; rw [h]; exact he
theorem num_lt (b : List UInt8) : getB ((b.drop 12).take 4) < 4294967296 := by
  have h := getB_lt ((b.drop 12).take 4)
  have hl : ((b.drop 12).take 4).length ≤ 4 := by simp; omega
  have : 256 ^ ((b.drop 12).take 4).length ≤ 256 ^ 4 := Nat.pow_le_pow_right (by decide) hl
  omega
theorem rec_at (n : Nat) (N : Int) (hN : N = (n : Int)) (hn : n < 4294967296) (w : World) : Calls Try.prog 49 #[.int .u32 N] w fun e w' => ∃ A c, e = .returned (.slice A 24 c) ∧ w'.ownsRow w.heap.size 5 1 (.slice A 24 c) 24 (bs (recB n)) ∧ Below w.heap.size w w' := by
  subst hN; exact rec_calls n hn w
set_option maxHeartbeats 1000000 in
set_option maxRecDepth 100000 in
theorem parse_calls (A : Option Addr) (n c : Nat) (b : List UInt8) (w : World) (hn : b.length = n) (hc : n ≤ c) (hm : n ≤ 60000) (hr : Rd w A (bs b)) :
    Calls Try.prog 47 #[.slice A n c] w fun e w' => ParsedIs b e ∧ Below w.heap.size w w' := by
  by_cases h16 : n < 16
  · have h16' : (n : Int) < 16 := by omega
    have hp : parseB b = none := by unfold parseB; rw [if_pos (by omega)]
    have HP := Lib.hid hp
    clear hp hn hr
    go_enter Try.func47, Try.ntmps47
    go_wp2
    go_ret2
    exact ⟨parsed_none HP.out rfl, .refl _ _⟩
  have h16' : ¬ (n : Int) < 16 := by omega
  obtain ⟨bb, o, hA, -⟩ := hr.cell (k := 0) (by rw [bs_length]; omega)
  subst hA
  have hc16 : (16 : Int) ≤ (c : Int) := by omega
  have hc12 : ¬ c = 12 := by omega
  have hrx : Rd w (some ⟨bb, o + 12, none⟩) (bs ((b.drop 12).take 4)) := rd_cut (c := c) hr 4 (by omega) (by omega) (fun b' o' hA _ => by cases hA; rfl)
  have hxl : ((b.drop 12).take 4).length = 4 := by simp; omega
  have hx8 : ((b.drop 12).take 4).take 8 = (b.drop 12).take 4 := List.take_of_length_le (by omega)
  have hxlt := num_lt b
  obtain ⟨x, hx⟩ : ∃ x, x = getB ((b.drop 12).take 4) := ⟨_, rfl⟩
  have hget := get_at (some ⟨bb, o + 12, none⟩) 4 (c - 12) ((b.drop 12).take 4) w hxl hrx (by decide)
  rw [hx8, ← hx] at hget
  rw [← hx] at hxlt
  have HG := Lib.hid hget
  have HX := Lib.hid hx
  have HN := Lib.hid hn
  have HR := Lib.hid hr
  have e32 : IntKind.u32.wrap (x : Int) = (x : Int) := by rw [IntKind.wrap_u32]; omega
  clear hget hx hn hr hrx hxl hx8
  go_enter Try.func47, Try.ntmps47
  go_wp2_with fail
  refine HG.out.mono ?_
  rintro e w' ⟨rfl, rfl⟩
  go_wp2_with fail
  refine (rec_calls x hxlt w).mono ?_
  rintro e w2 ⟨A2, c2, rfl, hown2, hb2⟩
  have R2 := Lib.hid (Rd.of_own hown2)
  have RB2 := Lib.hid (HR.out.below hb2)
  have HB2 := Lib.hid hb2
  clear hown2 hb2
  go_wp2_with fail
  refine (cut_calls93 bb o n c A2 24 c2 b (recB x) w2 HN.out (recB_length x) hc RB2.out R2.out).mono ?_
  rintro e w3 ⟨rfl, (⟨ht, rfl⟩ | ⟨ht, rfl⟩)⟩
  · have h24 : 24 ≤ n := by
      have := congrArg List.length ht
      rw [List.length_take, recB_length, HN.out] at this
      omega
    have HT := Lib.hid ht
    obtain ⟨X, hX⟩ : ∃ X, X = behind (some ⟨bb, o, none⟩) c 24 := ⟨_, rfl⟩
    obtain ⟨z, hz⟩ : ∃ z, z = (b.drop 24).all (· == 0) := ⟨_, rfl⟩
    have hzc := zero_at X (n - 24) (c - 24) (b.drop 24) z w2 (by rw [List.length_drop, HN.out]) (by rw [hX]; exact rd_behind RB2.out (by rw [HN.out]; exact h24) (by rw [HN.out]; exact hc)) (by omega) hz.symm
    rw [← hX]
    have HZC := Lib.hid hzc
    have HZ := Lib.hid hz
    clear hX hz hzc ht
    by_cases hx0 : x = 0
    · have hp : parseB b = none := by unfold parseB; rw [if_neg (by rw [HN.out]; omega), if_pos (by rw [← HX.out]; exact hx0)]
      have HP := Lib.hid hp
      clear hp
      subst hx0
      go_wp2_with fail
      go_ret2
      exact ⟨parsed_none HP.out rfl, HB2.out⟩
    · have hx0' : ¬ (x : Int) = 0 := by omega
      cases z with
      | false =>
        have hp : parseB b = none := by
          unfold parseB
          rw [if_neg (by rw [HN.out]; omega), if_neg (by rw [← HX.out]; exact hx0), if_neg (fun h => by rw [← HZ.out] at h; cases h.2)]
        have HP := Lib.hid hp
        clear hp
        go_wp2_with fail
        refine HZC.out.mono ?_
        rintro e w4 ⟨rfl, rfl⟩
        go_wp2_with fail
        go_ret2
        exact ⟨parsed_none HP.out rfl, HB2.out⟩
      | true =>
        have hp : parseB b = some x := by
          unfold parseB
          rw [if_neg (by rw [HN.out]; omega), if_neg (by rw [← HX.out]; exact hx0), if_pos ⟨by rw [← HX.out]; exact HT.out, HZ.out.symm⟩, HX.out]
        have HP := Lib.hid hp
        clear hp
        go_wp2_with fail
        refine HZC.out.mono ?_
        rintro e w4 ⟨rfl, rfl⟩
        go_wp2_with fail
        go_ret2
        exact ⟨parsed_some HP.out rfl, HB2.out⟩
  · have hp : parseB b = none := by
      unfold parseB
      split
      · rfl
      · split
        · rfl
        · rw [if_neg (fun h => ht (by rw [HX.out]; exact h.1))]
    have HP := Lib.hid hp
    clear hp ht
    by_cases hx0 : x = 0
    · subst hx0
      go_wp2_with fail
      go_ret2
      exact ⟨parsed_none HP.out rfl, HB2.out⟩
    · have hx0' : ¬ (x : Int) = 0 := by omega
      go_wp2_with fail
      go_ret2
      exact ⟨parsed_none HP.out rfl, HB2.out⟩
end Go.Proofs.Ytbdnoiaglighhaa
