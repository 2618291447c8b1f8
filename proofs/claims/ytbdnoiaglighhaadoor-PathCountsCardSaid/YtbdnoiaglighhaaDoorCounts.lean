/- The walk of dumbwaiterlaw13.PathCounts. No statement is proved here. -/
import Derived.Test.YtbdnoiaglighhaaDoorSeen
namespace Go.Proofs.YtbdnoiaglighhaaDoor
set_option linter.unusedVariables false
set_option linter.unusedSimpArgs false
open Go.RowKit Go.Maps

theorem i64_and_mask (k : Nat) (hk : k < 32) (n : Int) : bits .and .i64 n (((2 ^ k : Nat) : Int) - 1) = n % ((2 ^ k : Nat) : Int) := by
  have hp : 1 ≤ 2 ^ k := Nat.one_le_two_pow
  have hp2 : 2 ^ k ≤ 2 ^ 32 := Nat.pow_le_pow_right (by decide) (by omega)
  have hm : (BitVec.ofInt 64 (((2 ^ k : Nat) : Int) - 1)).toNat = 2 ^ k - 1 := by
    rw [BitVec.toNat_ofInt]
    generalize 2 ^ k = q at *
    omega
  have key : (BitVec.ofInt 64 n &&& BitVec.ofInt 64 (((2 ^ k : Nat) : Int) - 1)).toNat = (n % ((2 ^ 64 : Nat) : Int)).toNat % 2 ^ k := by
    rw [BitVec.toNat_and, BitVec.toNat_ofInt, hm, Nat.and_two_pow_sub_one_eq_mod]
  show IntKind.i64.wrap ((BitVec.ofInt 64 n &&& BitVec.ofInt 64 (((2 ^ k : Nat) : Int) - 1)).toNat : Nat) = _
  rw [key, IntKind.wrap_i64]
  have hd : ((2 ^ k : Nat) : Int) ∣ ((2 ^ 64 : Nat) : Int) := by exact_mod_cast Nat.pow_dvd_pow 2 (by omega)
  have h1 : (n % ((2 ^ 64 : Nat) : Int)).toNat % 2 ^ k = (n % ((2 ^ k : Nat) : Int)).toNat := by
    have h2 : (((n % ((2 ^ 64 : Nat) : Int)).toNat % 2 ^ k : Nat) : Int) = n % ((2 ^ k : Nat) : Int) := by
      rw [Int.natCast_emod, Int.toNat_of_nonneg (by omega), Int.emod_emod_of_dvd _ hd]
    omega
  rw [h1]
  have h3 : 0 ≤ n % ((2 ^ k : Nat) : Int) := Int.emod_nonneg _ (by omega)
  have h4 : n % ((2 ^ k : Nat) : Int) < ((2 ^ k : Nat) : Int) := Int.emod_lt_of_pos _ (by omega)
  have h5 : ((2 ^ k : Nat) : Int) ≤ ((2 ^ 32 : Nat) : Int) := by exact_mod_cast hp2
  rw [Int.toNat_of_nonneg h3]
  generalize n % ((2 ^ k : Nat) : Int) = z at *
  generalize ((2 ^ k : Nat) : Int) = q at *
  omega
theorem law3 : Keyed Tryd.prog 3 := int_keyed Tryd.underlying3
theorem zero3 (w : World) : (zeroValue 3).run Tryd.prog w = .ok (.int .i64 0) w := by kernel_rfl

theorem key_in (b l k : Nat) (hb : b < 8) (hl : l ≤ b) (hk : (k : Int) < ((2 ^ b : Nat) : Int)) : -9223372036854775808 ≤ keyZ b l (k : Int) ∧ keyZ b l (k : Int) ≤ 9223372036854775807 := by
  unfold keyZ
  have h1 := two_pos l
  have h2 := two_le l 7 (by omega)
  have h3 : (0 : Int) ≤ (k : Int) / 2 ^ (b - l) := Int.ediv_nonneg (by omega) (by have := two_pos (b - l); omega)
  have h4 : (k : Int) / 2 ^ (b - l) ≤ k := Int.ediv_le_self _ (by omega)
  have h5 : ((2 ^ b : Nat) : Int) ≤ 2 ^ 7 := by have := two_le b 7 (by omega); simpa using this
  generalize (2 : Int) ^ l = x at *
  generalize (k : Int) / 2 ^ (b - l) = y at *
  generalize ((2 ^ b : Nat) : Int) = z at *
  omega
theorem and_below (p N : Int) (b : Nat) (hN : N = ((2 ^ b : Nat) : Int)) (hb : b < 8) : ∃ x : Nat, x < 2 ^ b ∧ bits BinOp.and .i64 p (N - 1) = (x : Int) := by
  have h := i64_and_mask b (by omega) p
  rw [← hN] at h
  have hpos : (1 : Int) ≤ N := by rw [hN]; have := Nat.one_le_two_pow (n := b); omega
  have h1 := Int.emod_nonneg p (show N ≠ 0 by omega)
  have h2 := Int.emod_lt_of_pos p (show 0 < N by omega)
  exact ⟨(p % N).toNat, by omega, by rw [h]; omega⟩
theorem cast_div (x m : Nat) : (x : Int) / (2 : Int) ^ m = ((x / 2 ^ m : Nat) : Int) := by simp
theorem pow_facts (N : Int) (b l : Nat) (hN : N = ((2 ^ b : Nat) : Int)) (hb : b < 8) (hl : l ≤ b) : ∃ L C0 M L1 M2 : Int, L = (2 : Int) ^ l ∧ C0 = (2 : Int) ^ (b - l) ∧ min l 64 = l ∧ wrap64 ((2 : Int) ^ l) = L ∧ N / (2 : Int) ^ l = C0 ∧ wrap64 (2 * (2 : Int) ^ l) = M ∧ wrap64 (L - 1) = L1 ∧ wrap64 (M - 2) = M2 ∧
    L1 = L - 1 ∧ M2 = 2 * L - 2 := by
  have hL1 := two_pos l
  have hL2 := two_le l 7 (by omega)
  have hd : N / (2 : Int) ^ l = (2 : Int) ^ (b - l) := by
    have h := Nat.pow_sub_mul_pow 2 hl
    have h2 : ((2 ^ b : Nat) : Int) = (2 : Int) ^ (b - l) * 2 ^ l := by rw [← h]; simp
    rw [hN, h2]
    exact Int.mul_ediv_cancel _ (by omega)
  generalize (2 : Int) ^ l = L at *
  exact ⟨L, _, 2 * L, L - 1, 2 * L - 2, rfl, rfl, by omega, IntWalk.wrap64_in _ ⟨by omega, by omega⟩, hd, IntWalk.wrap64_in _ ⟨by omega, by omega⟩, IntWalk.wrap64_in _ ⟨by omega, by omega⟩, IntWalk.wrap64_in _ ⟨by omega, by omega⟩, rfl, rfl⟩
set_option maxHeartbeats 1000000 in
set_option maxRecDepth 100000 in
theorem counts_calls (p0 p1 p2 p3 : Int) (w : World) (h : Tab w) (h1 : 1 < w.heap.size) : Calls Tryd.prog 3 #[.int .i64 p0, .int .i64 p1, .int .i64 p2, .int .i64 p3] w fun e w' => e = .returned (.bool true) ∧ Below w.heap.size w w' := by
  have HT := Lib.hid h
  have H1 := Lib.hid h1
  clear h h1
  have ea : bits BinOp.and .i64 p0 255 = p0 % 256 := i64_and_mask 8 (by decide) p0
  obtain ⟨b, hb, eb⟩ : ∃ b : Nat, b < 8 ∧ p0 % 256 % 8 = (b : Int) := ⟨(p0 % 256 % 8).toNat, by omega, by omega⟩
  obtain ⟨N, hN⟩ : ∃ N : Int, N = ((2 ^ b : Nat) : Int) := ⟨_, rfl⟩
  have hm := may_two b hb
  rw [← hN] at hm
  have ew : IntKind.u64.wrap (b : Int) = (b : Int) := by rw [IntKind.wrap_u64]; omega
  have es : wrap64 ((2 : Int) ^ b) = N := by
    have e : (2 : Int) ^ b = N := by rw [hN]; simp
    rw [e]; exact IntWalk.wrap64_in _ ⟨by have := hm.1; omega, by have := hm.2.1; omega⟩
  have ec : bits BinOp.and .i64 p1 255 = p1 % 256 := i64_and_mask 8 (by decide) p1
  obtain ⟨l, hl, el⟩ : ∃ l : Nat, l ≤ b ∧ p1 % 256 % ((b : Int) + 1) = (l : Int) := by
    have h1 := Int.emod_nonneg (p1 % 256) (show ((b : Int) + 1) ≠ 0 by omega)
    have h2 := Int.emod_lt_of_pos (p1 % 256) (show (0 : Int) < (b : Int) + 1 by omega)
    exact ⟨(p1 % 256 % ((b : Int) + 1)).toNat, by omega, by omega⟩
  have hp0 : 0 ≤ p0 % 256 := by omega
  have hp1 : 0 ≤ p1 % 256 := by omega
  have hb0 : (0 : Int) ≤ (b : Int) := by omega
  have HN := Lib.hid hN
  have HM := Lib.hid hm
  have N1 := hm.1
  have N2 := hm.2.1
  have HB := Lib.hid hb
  have HL := Lib.hid hl
  have hmm := @run_makeMap Tryd.prog
  clear hN hm hl
  go_enter Tryd.func3, Tryd.ntmps3
  go_wp2_with fail
  rw [eb, el, es]
  clear eb el ea ec hp0 hp1 hmm
  go_loopw [11] (fun i wr => ∃ k : Nat, (k : Int) ≤ N ∧ i = .int .i64 (k : Int) ∧ wr.ownsMap Tryd.prog 3 (plainElem Tryd.prog 3) w.heap.size k (seen b l k) ∧ Below w.heap.size w wr) (fun i _ => N.toNat - (intOf i).toNat)
  case atStart => exact ⟨0, by omega, rfl, World.ownsMap_made _ _ _ _, (Below.refl _ _).alloc (Nat.le_refl _) _⟩
  case round =>
    obtain ⟨k, hk, rfl, hown, hb1⟩ := hrel
    by_cases hlt : (k : Int) < N
    · have HO := Lib.hid hown
      have HBL := Lib.hid hb1
      clear hown hb1
      have hk0 : (0 : Int) ≤ (k : Int) := by omega
      have hat := at_calls b HB.out N (k : Int) HN.out l HL.out ⟨hk0, hlt⟩ wr (HT.out.below HBL.out H1.out)
      have HK := Lib.hid (show keyZ b l (k : Int) = (2 : Int) ^ l - 1 + (k : Int) / 2 ^ (b - l) from rfl)
      rw [← HK.out] at hat
      have hkw : (Lit.int .i64 (keyZ b l (k : Int))).wf = true := WalkArith.wf_i64 (key_in b l k (by have := HB.out; omega) HL.out (by rw [← HN.out]; exact hlt))
      have hkey : keyOf Tryd.prog 3 (.int .i64 (keyZ b l (k : Int))) = some (.int .i64 (keyZ b l (k : Int))) := keyOf_int_mk Tryd.underlying3 hkw
      have HKE := Lib.hid hkey
      clear hkey hkw
      generalize hz : keyZ b l (k : Int) = z at *
      have HZ := Lib.hid hz
      clear hz HK
      go_wp2_with (first
        | (go_at_call 4; refine hat.mono ?_; rintro e w' ⟨rfl, m, rfl⟩; clear hat)
        | (at_lookup; refine wpList_lookup_own_int _ rfl _ _ 23 rfl 3 3 .i64 law3 Tryd.underlying23 Tryd.underlying3 (zero3 _) w.heap.size k _ rfl (show (wr.drewN m).ownsMap Tryd.prog 3 (plainElem Tryd.prog 3) w.heap.size k (seen b l k) from HO.out) _ _ rfl HKE.out ?_; intro c hc hwc)
        | (at_mapUpdate; refine wpList_mapUpdate_own _ rfl _ _ _ 23 rfl 3 3 law3 Tryd.underlying23 _ w.heap.size k _ rfl (show (wr.drewN m).ownsMap Tryd.prog 3 (plainElem Tryd.prog 3) w.heap.size k (seen b l k) from HO.out) (by unfold maxLen; omega) _ _ _ rfl rfl HKE.out _ [] (plainElem_int Tryd.underlying3 (wrap64_wf _)) ?_; intro w1 hown1 hgrow1))
      have hcn : cnt (seen b l k) z = c := by unfold cnt; rw [hc]
      have hcl := cnt_le b l k z
      rw [hcn] at hcl
      rw [IntWalk.wrap64_in (c + 1) ⟨by omega, by omega⟩] at hown1
      have hs : seen b l (k + 1) = (seen b l k).put (.int .i64 z) (num (c + 1)) := by rw [seen, HZ.out, hcn]
      rw [← hs] at hown1
      go_roundw
      case rel => exact ⟨k + 1, by omega, by go_num, hown1, (below_drewN HBL.out m).grown hgrow1 HBL.out.size (fun j hj => by cases hj; exact Nat.le_refl _)⟩
      case measure => simp [intOf]; omega
    · have hkN : k = 2 ^ b := by have := HN.out; omega
      subst hkN
      have hkk : ((2 ^ b : Nat) : Int) = N := HN.out.symm
      rw [hkk] at hlt hk ⊢
      have hsz0 := hb1.size
      have HBL := Lib.hid hb1
      clear hb1 hkk
      obtain ⟨wA, rfl⟩ : ∃ wA, wA = wr := ⟨wr, rfl⟩
      go_wp2_with (first
        | (at_range; refine wpList_range_own _ rfl _ 23 rfl 3 3 law3 Tryd.underlying23 _ w.heap.size (2 ^ b) _ rfl hown ?_; intro w0 hrg0 hg0 hs0))
      try go_frame
      go_loopw [14] (fun _ wx => ∃ (left : Lit → Bool) (q : Nat), wx.ranges Tryd.prog 3 (plainElem Tryd.prog 3) w.heap.size wA.heap.size (2 ^ b) (seen b l (2 ^ b)) left q ∧ Below w.heap.size w wx ∧ w.heap.size ≤ wx.heap.size ∧ ∀ kl, left kl = true → Maps.has (seen b l (2 ^ b)) kl = true)
        (fun _ wx => wx.rangeLeft w.heap.size wA.heap.size)
      case atStart => exact ⟨_, _, hrg0, HBL.out.grown hg0 HBL.out.size (fun j hj => by cases hj), by omega, fun _ h => h⟩
      case round =>
        clear hrg0 hg0 hs0
        obtain ⟨left, q, hrg, hbx, hsx, hleft⟩ := hrel
        obtain ⟨L, C0, M, L1, M2, hL, hC, em, e1, e3, e5, e6, e7, hL3, hM3⟩ := pow_facts N b l HN.out HB.out HL.out
        have HLL := Lib.hid hL
        have HC := Lib.hid hC
        have HLM := Lib.hid (And.intro hL3 hM3)
        clear hL hC hL3 hM3
        have e2 : IntKind.u64.wrap (l : Int) = (l : Int) := by rw [IntKind.wrap_u64]; have := HB.out; have := HL.out; omega
        have hl0 : (0 : Int) ≤ (l : Int) := by omega
        go_wp2_with (first
          | (at_next; refine wpList_next_ranges_ii _ rfl _ rfl 3 3 .i64 .i64 law3 Tryd.underlying3 Tryd.underlying3 w.heap.size wA.heap.size (2 ^ b) _ _ _ rfl hrg ?_ ?_))
        · intro hc0 hl0
          clear hown
          obtain ⟨x, hx, ex⟩ := and_below p2 N b HN.out HB.out
          obtain ⟨y, hy, ey⟩ := and_below p3 N b HN.out HB.out
          have HW := hrg.owns
          have hlen : (Builtin.len_ #[23] 3 #[.map (some w.heap.size)]).run Tryd.prog wr = .ok (.int .i64 L) wr := by
            rw [HW.len Tryd.underlying23 3, seen_size b l HB.out HL.out]
            have h := HLL.out
            have h2 : ((2 ^ l : Nat) : Int) = (2 : Int) ^ l := by simp
            rw [h2, ← h]
          have HLEN := Lib.hid hlen
          clear hrg hleft hl0 hc0 e3 e5 e6 e7 HLL HC HLM hlen
          go_wp2_with fail
          clear ex ey
          go_loopw [16] (fun i wx => ∃ k : Nat, k ≤ b ∧ i = .int .i64 (k : Int) ∧ wx = wr ∧ ∀ t, t < k → x / 2 ^ (b - 1 - t) = y / 2 ^ (b - 1 - t)) (fun i _ => b - (intOf i).toNat)
          case atStart => exact ⟨0, by omega, rfl, rfl, fun t ht => absurd ht (by omega)⟩
          case round =>
            obtain ⟨k, hkb, rfl, rfl, hall⟩ := hrel
            have HALL := Lib.hid hall
            clear hall
            have HXY := Lib.hid (And.intro hx hy)
            clear hx hy
            have HEND : k = b ∨ x / 2 ^ (b - 1 - k) ≠ y / 2 ^ (b - 1 - k) → meetOf b x y = (k : Int) := fun h => by rw [meet_of b x y HB.out HXY.out.1 HXY.out.2, first_is b x y k hkb HALL.out h]
            have HE := Lib.hid HEND
            clear HEND
            by_cases hlt2 : k < b
            · have hlt3 : (k : Int) < (b : Int) := by omega
              have e8 : IntKind.u64.wrap ((b : Int) - 1 - (k : Int)) = ((b - 1 - k : Nat) : Int) := by rw [IntKind.wrap_u64]; have := HB.out; omega
              have e10 : min (b - 1 - k) 64 = b - 1 - k := by have := HB.out; omega
              have e11 : (0 : Int) ≤ ((b - 1 - k : Nat) : Int) := by omega
              by_cases hd : x / 2 ^ (b - 1 - k) = y / 2 ^ (b - 1 - k)
              · have e12 : ((x : Int) / 2 ^ (b - 1 - k) == (y : Int) / 2 ^ (b - 1 - k)) = true := by rw [cast_div, cast_div, hd]; simp
                have HD := Lib.hid hd
                clear hd
                go_wp2_with fail
                go_roundw
                case rel => exact ⟨k + 1, by omega, by go_num, trivial, fun t ht => by
                  rcases Nat.lt_or_ge t k with h | h
                  · exact HALL.out t h
                  · obtain rfl : t = k := by omega
                    exact HD.out⟩
                case measure => simp [intOf]; omega
              · have e12 : ((x : Int) / 2 ^ (b - 1 - k) == (y : Int) / 2 ^ (b - 1 - k)) = false := by rw [cast_div, cast_div]; simpa using fun h => hd (by exact_mod_cast h)
                have HD := Lib.hid hd
                clear hd
                have hm := HE.out (.inr HD.out)
                have hlen := HLEN.out
                have HT2 := Lib.hid (HT.out.below hbx H1.out)
                have hmc := meet_calls b HB.out N HN.out x y (by rw [HN.out]; exact_mod_cast HXY.out.1) (by rw [HN.out]; exact_mod_cast HXY.out.2) wr HT2.out
                rw [hm] at hmc
                have HMC := Lib.hid hmc
                have hdc := depth_calls b HB.out wr HT2.out
                rw [← HN.out] at hdc
                have HDC := Lib.hid hdc
                have haw := awake13_calls wr HT2.out (by have := H1.out; omega)
                have HAW := Lib.hid haw
                clear hm hmc hdc haw
                go_wp2_with (first
                  | (go_at_call 5; refine HMC.out.mono ?_; rintro e w' ⟨rfl, rfl⟩)
                  | (go_at_call 6; refine HDC.out.mono ?_; rintro e w' ⟨rfl, rfl⟩)
                  | (go_at_call 7; refine HAW.out.mono ?_; rintro e w' ⟨rfl, hb9⟩))
                go_ret
                exact ⟨rfl, hbx.trans (hb9.mono hsx)⟩
            · have hlt3 : ¬ (k : Int) < (b : Int) := by omega
              have hm := HE.out (.inl (by omega))
              have hlen := HLEN.out
              have HT2 := Lib.hid (HT.out.below hbx H1.out)
              have hmc := meet_calls b HB.out N HN.out x y (by rw [HN.out]; exact_mod_cast HXY.out.1) (by rw [HN.out]; exact_mod_cast HXY.out.2) wr HT2.out
              rw [hm] at hmc
              have HMC := Lib.hid hmc
              have hdc := depth_calls b HB.out wr HT2.out
              rw [← HN.out] at hdc
              have HDC := Lib.hid hdc
              have haw := awake13_calls wr HT2.out (by have := H1.out; omega)
              have HAW := Lib.hid haw
              clear hm hmc hdc haw
              go_wp2_with (first
                | (go_at_call 5; refine HMC.out.mono ?_; rintro e w' ⟨rfl, rfl⟩)
                | (go_at_call 6; refine HDC.out.mono ?_; rintro e w' ⟨rfl, rfl⟩)
                | (go_at_call 7; refine HAW.out.mono ?_; rintro e w' ⟨rfl, hb9⟩))
              go_ret
              exact ⟨rfl, hbx.trans (hb9.mono hsx)⟩
        · intro x c w1 cnt1 hwx hwc hlx hat hrg1 hlt1 hg1 hs1 hen
          obtain ⟨he1, he2, he3⟩ := seen_each b l HB.out HL.out x c hat (hleft _ hlx)
          rw [← HC.out] at he1
          rw [← HLL.out] at he2 he3
          subst he1
          have hx2 : ¬ x < L1 := by have := HLM.out; omega
          have hx3 : ¬ M2 < x := by have := HLM.out; omega
          clear he2 he3
          clear hat hwx hwc
          go_wp2_with fail
          go_roundw
          case rel => exact ⟨_, cnt1, hrg1, hbx.grown hg1 hsx (fun j hj => by cases hj; exact hsz0), by rw [hs1]; exact hsx, fun kl hkl => hleft kl (by simp at hkl; exact hkl.1)⟩
          case measure => rw [hrg1.left_eq, hrg.left_eq]; exact hlt1
end Go.Proofs.YtbdnoiaglighhaaDoor
