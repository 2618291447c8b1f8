/- The walks of the reference's Record and of bytes.HasPrefix, CutPrefix. No statement is proved here. -/
import Derived.Test.YtbdnoiaglighhaaBoot
namespace Go.Proofs.Ytbdnoiaglighhaa
set_option linter.unusedVariables false
set_option linter.unusedSimpArgs false
set_option linter.constructorNameAsVariable false
open Go.RowKit Go.Maps

theorem own_of_blk {w : World} {base g : Nat} {l : List UInt8} (h : Blk w g 5 (bs l)) (hg : base ≤ g) (hl : l.length ≤ 60000) : w.ownsRow base 5 1 (.slice (some ⟨g, 0, none⟩) l.length l.length) l.length (bs l) :=
  ⟨by simp, .inr ⟨g, l.length, (bs l).toArray, rfl, hg, h, Nat.le_refl _, by unfold maxLen; omega, by simp, by simp [List.take_of_length_le]⟩⟩
theorem rsum_of (A : Option Addr) (n c : Nat) (l : List UInt8) (w : World) (hn : l.length = n) (hr : Rd w A (bs l)) (hl : n ≤ 140737488351232) :
    Calls Try.prog 90 #[.slice A n c] w fun e w' => e = .returned (.int .u64 (sumB l : Nat)) ∧ w = w' := by
  subst hn; exact rsum_calls A c l w hr hl
set_option maxHeartbeats 1000000 in
set_option maxRecDepth 100000 in
theorem rrec_calls (n : Nat) (hn : n < 4294967296) (w : World) : Calls Try.prog 40 #[.int .u32 (n : Int)] w fun e w' => ∃ v, e = .returned v ∧ w'.ownsRow w.heap.size 5 1 v 24 (bs (recB n)) ∧ Below w.heap.size w w' := by
  have hmk : ∀ W : World, (Instr.makeSlice 41 (.int .i64 12) (.int .i64 12)).run Try.prog W = .ok (.slice (some ⟨W.heap.size, 0, none⟩) 12 12) (W.alloc (.cells (bs (List.replicate 12 0)).toArray 5)) := make_bytes 12 (by decide)
  have e1 : IntKind.u64.wrap (n : Int) = (n : Int) := by rw [IntKind.wrap_u64]; omega
  go_enter Try.func40, Try.ntmps40
  go_wp2_with fail
  refine (rput_at n 4 _ _ _ rfl rfl (by omega)).mono ?_
  rintro e w1 ⟨v1, rfl, hown1, hb1⟩
  obtain ⟨A1, c1, rfl⟩ := own_slice hown1
  obtain ⟨P, hP⟩ : ∃ P, P = putB n 4 := ⟨_, rfl⟩
  have hPl : P.length = 4 := by rw [hP, putB_length]
  rw [← hP] at hown1
  have HPP := Lib.hid hP
  have HPl := Lib.hid hPl
  have HB1 := Lib.hid hb1
  have HO1 := Lib.hid hown1
  have hs1 := hb1.size
  have B2 := Lib.hid (Blk.new w1 5 (bs (List.replicate 12 0)))
  have hown2 : (w1.alloc (.cells (bs (List.replicate 12 0)).toArray 5)).ownsRow w.heap.size 5 1 (.slice (some ⟨w1.heap.size, 0, none⟩) 12 12) 12 (bs (List.replicate 12 0)) := own_of_blk B2.out hs1 (by decide)
  have hbel2 := Lib.hid (hb1.alloc hs1 (.cells (bs (List.replicate 12 0)).toArray 5))
  have hr1 : Rd (w1.alloc (.cells (bs (List.replicate 12 0)).toArray 5)) A1 (bs P) := (Rd.of_own hown1).alloc _
  clear hP hPl hb1 hown1
  go_wp2_with (first
    | (at_builtin; refine wpList_appAny (v := .slice (some ⟨w1.heap.size, 0, none⟩) 12 12) S41 rfl (.tmp 7) (.tmp 8) rfl rfl rfl hown2 hr1 (by rw [bs_length, HPl.out]) (bs_one _) (by decide) (by decide) (by simp; omega) ?_; intro v3 w3 hown3 hg3 hl3))
  obtain ⟨A3, c3, rfl⟩ := own_slice hown3
  have hb3 := below_grown hbel2.out hown2 hg3 (by simp; omega)
  have HB3 := Lib.hid hb3
  have HO3 := Lib.hid (show w3.ownsRow w.heap.size 5 1 (.slice A3 (12 + 4) c3) (12 + 4) (bs (List.replicate 12 0 ++ P)) by rw [bs_append]; exact hown3)
  have hs3 := hb3.size
  have hrP : Rd w3 A1 (bs P) := by
    refine (Rd.of_own (own_same HO1.out (fun g hg => ?_)) : Rd w3 A1 (bs P))
    have hl := (HO1.out.lt g hg).2
    refine (hg3.block g (by simp; omega) (fun e => ?_)).trans (Below.heap_alloc w1 _ g hl)
    have h : g = w1.heap.size := Option.some.inj e
    omega
  have HRP := Lib.hid hrP
  clear hown3 hg3 hl3 hown2 hr1 hb3 hrP hmk
  go_wp2_with fail
  refine (rsum_of A1 4 c1 P w3 HPl.out HRP.out (by decide)).mono ?_
  rintro e w4 ⟨rfl, rfl⟩
  go_wp2_with fail
  refine (rput_at (sumB P) 8 _ _ w3 rfl rfl (by omega)).mono ?_
  rintro e w5 ⟨v5, rfl, hown5, hb5⟩
  obtain ⟨A5, c5, rfl⟩ := own_slice hown5
  have HO5 := Lib.hid (own_below HO3.out hb5)
  have HB5 := Lib.hid (HB3.out.trans (hb5.mono hs3))
  have hr5 : Rd w5 A5 (bs (putB (sumB P) 8)) := .of_own hown5
  have hs5 := hb5.size
  clear hown5 hb5
  go_wp2_with (first
    | (at_builtin; refine wpList_appAny (v := .slice A3 (12 + 4) c3) (m := 8) S41 rfl (.tmp 9) (.tmp 12) rfl rfl rfl HO5.out hr5 (by rw [bs_length, putB_length]) (bs_one _) (by decide) (by decide) (by omega) ?_; intro v6 w6 hown6 hg6 hl6))
  go_ret
  refine ⟨_, rfl, ?_, below_grown HB5.out HO5.out hg6 (by omega)⟩
  rw [← bs_append, HPP.out] at hown6
  exact hown6
theorem rrec_at (n : Nat) (N : Int) (hN : N = (n : Int)) (hn : n < 4294967296) (w : World) : Calls Try.prog 40 #[.int .u32 N] w fun e w' => ∃ v, e = .returned v ∧ w'.ownsRow w.heap.size 5 1 v 24 (bs (recB n)) ∧ Below w.heap.size w w' := by
  subst hN; exact rrec_calls n hn w
end Go.Proofs.Ytbdnoiaglighhaa
