/- The walk of the reference's Seal. No statement is proved here. -/
import Derived.Test.YtbdnoiaglighhaaSeal
namespace Go.Proofs.Ytbdnoiaglighhaa
set_option linter.unusedVariables false
set_option linter.unusedSimpArgs false
open Go.RowKit

theorem rsum_at (A : Option Addr) (n c : Nat) (l : List UInt8) (w : World) (hn : l.length = n) (hr : Rd w A (bs l)) (hl : n ≤ 140737488351232) :
    Calls Try.prog 90 #[.slice A n c] w fun e w' => e = .returned (.int .u64 (sumB l : Nat)) ∧ w = w' := by
  subst hn; exact rsum_calls A c l w hr hl

set_option maxHeartbeats 1000000 in
set_option maxRecDepth 100000 in
theorem rseal_calls (key : List UInt8) (hk : key.length = 32) (boot seq : Nat) (hb : boot < 4294967296) (l : List UInt8) (A : Option Addr) (n c : Nat) (hn : l.length = n) (size : Int) (hs : size ≤ 60000) (w : World) (hr : Rd w A (bs l)) :
    Calls Try.prog 36 #[.agg (bs key).toArray, .int .u32 (boot : Int), .int .u64 (seq : Int), .slice A n c, .int .i64 size] w (Sealed key boot seq l size w) := by
  have HK := Lib.hid hk
  have HN := Lib.hid hn
  have HR := Lib.hid hr
  clear hk hn hr
  have hq : size < 22 ∨ 22 ≤ size := by omega
  generalize hX : bs key = X at *
  have HX := Lib.hid hX
  clear hX
  go_enter Try.func36, Try.ntmps36
  rcases hq with hq | hq
  · go_wp2_with fail
    go_ret2
    exact .inr ⟨by omega, rfl, (Below.refl w.heap.size w).alloc (Nat.le_refl _) (.cells X.toArray 58)⟩
  go_wp2_with fail
  refine (rhead_calls boot seq hb _).mono ?_
  rintro e w1 ⟨rfl, hb1⟩
  have b0 := (Blk.new w 58 X).below hb1 (by simp)
  have hbel := ((Below.refl w.heap.size w).alloc (Nat.le_refl _) (.cells X.toArray 58)).trans (hb1.mono (by simp))
  clear hb1
  have B0 := Lib.hid (b0.alloc (.cells noughts12.toArray 48))
  have BB := Lib.hid (hbel.alloc hbel.size (.cells noughts12.toArray 48))
  obtain ⟨g, hg⟩ : ∃ g, g = w1.heap.size := ⟨_, rfl⟩
  have HP := Lib.hid (Blk.new w1 48 noughts12)
  have hg0 : w.heap.size < g := by rw [hg]; exact b0.lt
  rw [← hg] at HP
  have Hg := Lib.hid hg
  clear hg b0 hbel
  obtain ⟨s, rfl⟩ : ∃ s : Nat, size = (s : Int) := ⟨size.toNat, by omega⟩
  go_wp2_with (first
    | (refine wpList_putAll rfl 48 (.tmp 12) (.tmp 21) rfl (vs := bs (hdB boot seq)) rfl rfl (by rw [← Hg.out]; exact HP.out) info48 (by rw [bs_length, hdB_length]) (by decide) (bs_one _) ?_; intro w5 hP5 hg5))
  rw [← Hg.out] at hP5
  have C0 := Lib.hid (B0.out.grown hg5 (by have := Hg.out; simp; omega))
  have CB := Lib.hid (BB.out.grown hg5 BB.out.size (fun j hj => by cases hj; have := Hg.out; omega))
  have CR := Lib.hid (HR.out.below CB.out)
  have C1 := Lib.hid hP5
  clear hP5 hg5 B0 BB HP
  rw [← Hg.out]
  clear Hg
  by_cases hfit : l.length + 22 ≤ s
  · refine (rpad_at _ _ _ l (s - 22) _ _ HN.out (by omega) CR.out (by omega) (by omega)).mono ?_
    rintro e w7 ⟨v, rfl, hown, hb7⟩
    obtain ⟨A7, c7, rfl⟩ := own_slice hown
    have D0 := Lib.hid (C0.out.below hb7 C0.out.lt)
    have D1 := Lib.hid (C1.out.below hb7 C1.out.lt)
    have DB := Lib.hid (CB.out.trans (hb7.mono CB.out.size))
    have DO := Lib.hid (Joins.ownsRow_le (base' := g + 1) hown (by have := C1.out.lt; omega))
    have hg7 : g < w7.heap.size := D1.out.lt
    clear hb7 hown C0 C1 CB CR
    have hall := fun w' => arr48.all g 0 w'
    have hown0 := own_empty w7 w7.heap.size (Nat.le_refl _)
    have bE := (Below.refl w7.heap.size w7).alloc (Nat.le_refl _) (.cells #[] 5)
    have hnF : (bs (padB l (s - 22))).length = s - 22 + 2 := by rw [bs_length, padB_length _ _ (by omega)]
    have HnF := Lib.hid hnF
    clear hnF
    go_wp2_with (first
      | (at_builtin; refine wpList_appAny (v := .slice (some ⟨w7.heap.size, 0, none⟩) 0 0) S41 rfl (.tmp 32) (.tmp 33) rfl rfl rfl hown0 (D1.out.alloc _).rdAll (by rw [bs_length, hdB_length]) (bs_one _) (by omega) (by unfold maxLen; omega) (by simp) ?_
         intro v8 w8 hown8 hg8 _
         have b8 := Lib.hid (below_grown bE hown0 hg8 (by simp))
         have O8 := Lib.hid (own_below DO.out b8.out)
         have s8 := b8.out.size
         clear hg8 hown0 bE)
      | (at_builtin; refine wpList_appAny (v := v8) S41 rfl (.tmp 34) (.tmp 35) rfl rfl rfl hown8 (.of_own O8.out) (by rw [HnF.out]; omega) (bs_one _) (by omega) (by unfold maxLen; omega) s8 ?_
         intro v9 w9 hown9 hg9 _
         have b9 := Lib.hid (below_grown b8.out hown8 hg9 s8)
         clear hg9 hown8 b8 O8 s8
         rw [List.nil_append, ← bs_append, show 0 + 12 + (s - 22 + 2) = s - 8 by omega] at hown9
         obtain ⟨A9, c9, hv9⟩ := own_slice hown9
         subst hv9))
    refine (rsum_at _ _ _ (hdB boot seq ++ padB l (s - 22)) _ (by rw [List.length_append, hdB_length, padB_length _ _ (by omega)]; omega) (.of_own hown9) (by omega)).mono ?_
    rintro e w10 ⟨rfl, rfl⟩
    obtain ⟨z, hz⟩ : ∃ z, z = sumB (hdB boot seq ++ padB l (s - 22)) := ⟨_, rfl⟩
    rw [← hz]
    have HZ := Lib.hid (show padB l (s - 22) ++ putB z 8 = bodyB boot seq l s by rw [hz]; rfl)
    have E0 := Lib.hid (D0.out.below b9.out D0.out.lt)
    have E1 := Lib.hid (D1.out.below b9.out D1.out.lt)
    have EB := Lib.hid (DB.out.trans (b9.out.mono DB.out.size))
    have EO := Lib.hid (own_below DO.out b9.out)
    clear hz hall D0 D1 DB DO b9 hown9
    go_wp2_with fail
    refine (rput_at z 8 _ _ _ rfl rfl (by decide)).mono ?_
    rintro e w11 ⟨v11, rfl, hown11, hb11⟩
    obtain ⟨A11, c11, rfl⟩ := own_slice hown11
    have F0 := Lib.hid (E0.out.below hb11 E0.out.lt)
    have F1 := Lib.hid (E1.out.below hb11 E1.out.lt)
    have FB := Lib.hid (EB.out.trans (hb11.mono EB.out.size))
    have FO := Lib.hid (own_below EO.out hb11)
    clear hb11 E0 E1 EB EO
    have hg1 := F1.out.lt
    have hvb := FO.out.lt
    go_wp2_with (first
      | (at_builtin; refine wpList_appAny (v := .slice A7 (s - 22 + 2) c7) S41 rfl (.tmp 31) (.tmp 38) rfl rfl rfl FO.out (.of_own hown11) (by rw [bs_length, putB_length]) (bs_one _) (by omega) (by unfold maxLen; omega) (by omega) ?_
         intro v12 w12 hown12 hg12 _
         have G0 := Lib.hid (F0.out.grown hg12 (fun h => by have := (hvb _ h.symm).1; omega))
         have G1 := Lib.hid (F1.out.grown hg12 (fun h => by have := (hvb _ h.symm).1; omega))
         have GB := Lib.hid (FB.out.grown hg12 FB.out.size (fun j hj => by have := (hvb _ hj).1; omega))
         rw [← bs_append, HZ.out, show s - 22 + 2 + 8 = s - 12 by omega] at hown12
         clear hg12 hvb F0 F1 FB FO hown11
         obtain ⟨A12, c12, hv12⟩ := own_slice hown12
         subst hv12)
      | (refine wpList_getAll rfl 58 (.tmp 5) rfl rfl G0.out Try.underlying58 rfl info58 (by rw [← HX.out, bs_length, HK.out]) ?_)
      | (refine wpList_getAll rfl 48 (.tmp 12) rfl rfl G1.out Try.underlying48 rfl info48 (by rw [bs_length, hdB_length]) ?_))
    rw [← HX.out]
    refine (rxor_calls key (hdB boot seq) (bodyB boot seq l s) _ (s - 12) _ HK.out (hdB_length _ _) (by rw [bodyB_length _ _ _ _ (by omega)]; omega) (bodyB_length _ _ _ _ (by omega)) _ (.of_own hown12)).mono ?_
    rintro e w13 ⟨v13, rfl, hown13, hb13⟩
    obtain ⟨A13, c13, rfl⟩ := own_slice hown13
    have H1 := Lib.hid (G1.out.below hb13 G1.out.lt)
    have HB := Lib.hid (GB.out.trans (hb13.mono GB.out.size))
    clear hb13 G0 G1 GB hown12
    have hsz := HB.out.size
    have hall := (fun w' => arr48.all g 0 w')
    have hown0 := own_empty w13 w13.heap.size (Nat.le_refl _)
    have bE := (Below.refl w13.heap.size w13).alloc (Nat.le_refl _) (.cells #[] 5)
    have HXL := Lib.hid (show (bs (xorA key (hdB boot seq) (bodyB boot seq l s))).length = s - 12 by rw [bs_length, xorA_length, bodyB_length _ _ _ _ (by omega)])
    go_wp2_with (first
      | (at_builtin; refine wpList_appAny (v := .slice (some ⟨w13.heap.size, 0, none⟩) 0 0) S41 rfl (.tmp 47) (.tmp 48) rfl rfl rfl hown0 (H1.out.alloc _).rdAll (by rw [bs_length, hdB_length]) (bs_one _) (by omega) (by unfold maxLen; omega) (by simp) ?_
         intro v14 w14 hown14 hg14 _
         have b14 := Lib.hid (below_grown bE hown0 hg14 (by simp))
         have s14 := b14.out.size
         have O14 := Lib.hid (own_below hown13 b14.out)
         clear hg14 hown0 bE)
      | (at_builtin; refine wpList_appAny (v := v14) S41 rfl (.tmp 49) (.tmp 50) rfl rfl rfl hown14 (.of_own O14.out) (by rw [HXL.out]; omega) (bs_one _) (by omega) (by unfold maxLen; omega) s14 ?_
         intro v15 w15 hown15 hg15 _
         have b15 := Lib.hid (below_grown b14.out hown14 hg15 s14)
         clear hg15 hown14 b14 O14))
    go_ret2
    refine .inl ⟨s, v15, rfl, by omega, rfl, ?_, HB.out.trans (b15.out.mono hsz)⟩
    rw [List.nil_append, ← bs_append, show 0 + 12 + (s - 12) = s by omega] at hown15
    exact Joins.ownsRow_le hown15 hsz
  · refine (rpad_not _ _ _ (s - 22) _ _ (by omega) (by have := HN.out; omega)).mono ?_
    rintro e w7 ⟨rfl, rfl⟩
    go_wp2_with fail
    go_ret2
    exact .inr ⟨by omega, rfl, CB.out⟩
end Go.Proofs.Ytbdnoiaglighhaa
