/- The walk of the reference's Block. No statement is proved here. -/
import Derived.Test.YtbdnoiaglighhaaChacF
namespace Go.Proofs.Ytbdnoiaglighhaa
set_option linter.unusedVariables false
set_option linter.unusedSimpArgs false
open Go.RowKit

theorem lay_byte (s t : List UInt32) (n k j : Nat) (h : k < 16) (hj : j < 4) :
    lay (bs (blockTo s t k ++ (putB n j ++ List.replicate (64 - 4 * k - j) 0))) (4 * k + j) [.int .u8 ((UInt8.ofNat (n / 256 ^ j)).toNat : Int)] = bs (blockTo s t k ++ (putB n (j + 1) ++ List.replicate (64 - 4 * k - (j + 1)) 0)) := by
  have hl : (bs (blockTo s t k ++ putB n j)).length = 4 * k + j := by rw [bs_length, List.length_append, blockTo_length, putB_length]
  rw [← List.append_assoc, bs_append]
  unfold lay
  rw [List.take_left' hl, List.drop_append, hl, List.drop_of_length_le (by simp [blockTo_length, putB_length]), List.nil_append, show 4 * k + j + [Value.int .u8 ((UInt8.ofNat (n / 256 ^ j)).toNat : Int)].length - (4 * k + j) = 1 by simp,
    show 64 - 4 * k - j = (64 - 4 * k - (j + 1)) + 1 by omega]
  simp [bs, putB, byt, List.replicate_succ]

set_option maxHeartbeats 4000000 in
set_option maxRecDepth 100000 in
theorem rblock_calls (key nonce : List UInt8) (ctr : UInt32) (hk : key.length = 32) (hn : nonce.length = 12) (w : World) :
    Calls Try.prog 103 #[.agg (bs key).toArray, .agg (bs nonce).toArray, .int .u32 (ctr.toNat : Int)] w fun e w' => e = .returned (.agg (bs (blockB key nonce ctr)).toArray) ∧ Below w.heap.size w w' := by
  have HK := Lib.hid hk
  have HN := Lib.hid hn
  clear hk hn
  have b3 : Blk ((((w.alloc (.cells (bs key).toArray 58)).alloc (.cells (bs nonce).toArray 48)).alloc (.cells noughts64.toArray 123)).alloc (.cells noughts16.toArray 126)) (w.heap.size + 1 + 1 + 1) 126 noughts16 := by
    have := Blk.new (((w.alloc (.cells (bs key).toArray 58)).alloc (.cells (bs nonce).toArray 48)).alloc (.cells noughts64.toArray 123)) 126 noughts16
    rwa [World.size_alloc, World.size_alloc, World.size_alloc] at this
  have KP := Lib.hid (Kept.start w key nonce)
  have B3 := Lib.hid b3
  clear b3
  go_enter Try.func103, Try.ntmps103
  go_wp2_with (first
    | (refine wpList_putAll rfl 126 (.tmp 7) (.tmp 16) rfl (vs := fillS head4 12) rfl rfl B3.out info126 (by decide) (by decide) (by decide) ?_; intro w2 hP2 hg2))
  have K2 := Lib.hid (KP.out.grown hg2 (by omega))
  clear hg2 KP B3
  go_loopw [8] (fun i wr => ∃ k : Nat, k ≤ 8 ∧ i = .int .i64 (k : Int) ∧ Kept w wr key nonce ∧ Blk wr (w.heap.size + 1 + 1 + 1) 126 (fillS (head4 ++ wordsTo key k) (12 - k))) (fun i _ => 8 - (intOf i).toNat)
  case atStart => exact ⟨0, by omega, rfl, K2.out, hP2⟩
  case round =>
    obtain ⟨k, hk, rfl, d0, d3⟩ := hrel
    clear K2 hP2 w2
    have D0 := Lib.hid d0
    have D3 := Lib.hid d3
    clear d0 d3
    by_cases hlt : k < 8
    · have hsl := arr58.lh w.heap.size 0 (4 * k) (4 * k + 4) (L := 4 * (k : Int)) (H := 4 * (k : Int) + 4) (by omega) (by omega) (by omega) (by omega) (by omega)
      rw [Nat.zero_add, Nat.add_sub_cancel_left] at hsl
      go_wp2_with fail
      refine (rget4 _ _ ((key.drop (4 * k)).take 4) _ (by simp; have := HK.out; omega) (by rw [← bs_cut]; exact D0.out.1.rd (by rw [bs_length, HK.out]; omega))).mono ?_
      rintro e w3 ⟨rfl, rfl⟩
      have hx : getB ((key.drop (4 * k)).take 4) < 4294967296 := Nat.lt_of_lt_of_le (getB_lt _) (Nat.pow_le_pow_right (by decide) (by simp; omega) : _ ≤ 256 ^ 4)
      obtain ⟨g, hg⟩ : ∃ g, g = getB ((key.drop (4 * k)).take 4) := ⟨_, rfl⟩
      rw [← hg] at hx ⊢
      have HW := Lib.hid (show [Value.int .u32 (g : Int)] = [wrd (wordAt key k)] by unfold wrd wordAt; rw [← hg, UInt32.toNat_ofNat', Nat.mod_eq_of_lt hx])
      clear hg
      go_wp2_with (first
        | (refine wpList_put rfl 59 (.tmp 31) (.tmp 30) rfl rfl rfl D3.out (vs := [.int .u32 (g : Int)]) rfl (by kernel_rfl) (by rw [fillS_length]; simp [wordsTo_length, head4]; omega) (by simp [Value.oneCell']) ?_; intro w4 hP4 hg4))
      go_roundw
      case rel => exact ⟨k + 1, by omega, by go_num, D0.out.grown hg4 (by omega), by
        rw [HW.out, show 12 - k = 12 - (k + 1) + 1 by omega, fillS_put _ _ _ _ (by simp [wordsTo_length, head4]; omega), List.append_assoc] at hP4
        exact hP4⟩
      case measure => simp [intOf]; omega
    · obtain rfl : k = 8 := by omega
      go_wp2_with (first
        | (refine wpList_put rfl 59 (.tmp 33) (.tmp 32) rfl rfl rfl D3.out (vs := [wrd ctr]) rfl (by kernel_rfl) (by rw [fillS_length]; simp [wordsTo_length, head4]) (by simp [wrd, Value.oneCell']) ?_; intro w4 hP4 hg4))
      rw [fillS_put _ 3 _ _ (by simp [wordsTo_length, head4])] at hP4
      have K4 := Lib.hid (D0.out.grown hg4 (by omega))
      clear hg4 D0 D3
      go_loopw [9] (fun i wr => ∃ k : Nat, k ≤ 3 ∧ i = .int .i64 (k : Int) ∧ Kept w wr key nonce ∧ Blk wr (w.heap.size + 1 + 1 + 1) 126 (fillS (head4 ++ wordsTo key 8 ++ [ctr] ++ wordsTo nonce k) (3 - k))) (fun i _ => 3 - (intOf i).toNat)
      case atStart => exact ⟨0, by omega, rfl, K4.out, by simpa [wordsTo] using hP4⟩
      case round =>
        obtain ⟨k, hk, rfl, d0, d3⟩ := hrel
        clear K4 hP4 w4
        have D0 := Lib.hid d0
        have D3 := Lib.hid d3
        clear d0 d3
        by_cases hlt : k < 3
        · have hsl := arr48.lh (w.heap.size + 1) 0 (4 * k) (4 * k + 4) (L := 4 * (k : Int)) (H := 4 * (k : Int) + 4) (by omega) (by omega) (by omega) (by omega) (by omega)
          rw [Nat.zero_add, Nat.add_sub_cancel_left] at hsl
          go_wp2_with fail
          refine (rget4 _ _ ((nonce.drop (4 * k)).take 4) _ (by simp; have := HN.out; omega) (by rw [← bs_cut]; exact D0.out.2.1.rd (by rw [bs_length, HN.out]; omega))).mono ?_
          rintro e w3 ⟨rfl, rfl⟩
          have hx : getB ((nonce.drop (4 * k)).take 4) < 4294967296 := Nat.lt_of_lt_of_le (getB_lt _) (Nat.pow_le_pow_right (by decide) (by simp; omega) : _ ≤ 256 ^ 4)
          obtain ⟨g, hg⟩ : ∃ g, g = getB ((nonce.drop (4 * k)).take 4) := ⟨_, rfl⟩
          rw [← hg] at hx ⊢
          have HW := Lib.hid (show [Value.int .u32 (g : Int)] = [wrd (wordAt nonce k)] by unfold wrd wordAt; rw [← hg, UInt32.toNat_ofNat', Nat.mod_eq_of_lt hx])
          clear hg
          go_wp2_with (first
            | (refine wpList_put rfl 59 (.tmp 48) (.tmp 47) rfl rfl rfl D3.out (vs := [.int .u32 (g : Int)]) rfl (by kernel_rfl) (by rw [fillS_length]; simp [wordsTo_length, head4]; omega) (by simp [Value.oneCell']) ?_; intro w4 hP4 hg4))
          go_roundw
          case rel => exact ⟨k + 1, by omega, by go_num, D0.out.grown hg4 (by omega), by
            rw [HW.out, show 3 - k = 3 - (k + 1) + 1 by omega, fillS_put _ _ _ _ (by simp [wordsTo_length, head4]; omega), List.append_assoc _ _ [_]] at hP4
            exact hP4⟩
          case measure => simp [intOf]; omega
        · obtain rfl : k = 3 := by omega
          have HI : fillS (head4 ++ wordsTo key 8 ++ [ctr] ++ wordsTo nonce 3) (3 - 3) = ws (initS key nonce ctr) := by simp [fillS, initS]
          have E3 := Lib.hid (HI ▸ D3.out)
          clear D3 HI
          obtain ⟨s, hs⟩ : ∃ s, s = initS key nonce ctr := ⟨_, rfl⟩
          have HS := Lib.hid (show s.length = 16 by rw [hs, initS_length])
          rw [← hs] at E3
          have HSE := Lib.hid hs
          clear hs
          have hsz := E3.out.lt
          obtain ⟨q, hq⟩ : ∃ q, q = wr.heap.size := ⟨_, rfl⟩
          have HP := Lib.hid (Blk.new wr 126 noughts16)
          rw [← hq] at HP
          have Hq := Lib.hid hq
          rw [← hq] at hsz
          clear hq
          go_wp2_with (first
            | (refine wpList_getAll rfl 126 (.tmp 7) rfl rfl E3.out Try.underlying126 rfl info126 (by rw [ws_length, HS.out]) ?_)
            | (refine wpList_putAll rfl 126 (.tmp 10) (.tmp 49) rfl (vs := ws s) rfl rfl (by rw [← Hq.out]; exact HP.out) info126 (by rw [ws_length, HS.out]) (by decide) (ws_one s) ?_; intro w5 hP5 hg5))
          rw [← Hq.out] at hP5
          have hg := grown_alloc hg5
          rw [← Hq.out] at hg
          clear hg5
          have K5 := Lib.hid (D0.out.grown hg (by omega))
          have F3 := Lib.hid (E3.out.grown hg (by simp; omega))
          clear hg D0 E3 HP
          rw [← Hq.out]
          clear Hq
          go_loopw [11] (fun i wr => ∃ k : Nat, k ≤ 10 ∧ i = .int .i64 (k : Int) ∧ Kept w wr key nonce ∧ Blk wr (w.heap.size + 1 + 1 + 1) 126 (ws s) ∧ Blk wr q 126 (ws (dblTo s k))) (fun i _ => 10 - (intOf i).toNat)
          case atStart => exact ⟨0, by omega, rfl, K5.out, F3.out, hP5⟩
          case round =>
            obtain ⟨k, hk, rfl, d0, d3, d5⟩ := hrel
            clear K5 F3 hP5 w5
            have D0 := Lib.hid d0
            have D3 := Lib.hid d3
            have D5 := Lib.hid d5
            clear d0 d3 d5
            by_cases hlt : k < 10
            · go_wp2_with (first
                | (refine wpList_getAll rfl 126 (.tmp 10) rfl rfl D5.out Try.underlying126 rfl info126 (by rw [ws_length, dblTo_length, HS.out]) ?_))
              refine (rdouble_calls _ (by rw [dblTo_length, HS.out]) _).mono ?_
              rintro e w6 ⟨rfl, hb6⟩
              have G0 := Lib.hid (D0.out.below hb6 (by have := D5.out.lt; omega))
              have G3 := Lib.hid (D3.out.below hb6 D3.out.lt)
              have G5 := Lib.hid (D5.out.below hb6 D5.out.lt)
              clear hb6 D0 D3 D5
              have HD : dbl (dblTo s k) = dblTo s (k + 1) := rfl
              rw [HD]
              clear HD
              go_wp2_with (first
                | (refine wpList_putAll rfl 126 (.tmp 10) (.tmp 55) rfl (vs := ws (dblTo s (k + 1))) rfl rfl G5.out info126 (by rw [ws_length, dblTo_length, HS.out]) (by rw [ws_length, dblTo_length, HS.out]) (ws_one _) ?_; intro w7 hP7 hg7))
              go_roundw
              case rel => exact ⟨k + 1, by omega, by go_num, G0.out.grown hg7 (by omega), G3.out.grown hg7 (by simp; omega), hP7⟩
              case measure => simp [intOf]; omega
            · obtain rfl : k = 10 := by omega
              obtain ⟨t, ht⟩ : ∃ t, t = dblTo s 10 := ⟨_, rfl⟩
              have HT := Lib.hid (show t.length = 16 by rw [ht, dblTo_length, HS.out])
              rw [← ht] at D5
              have HTE := Lib.hid ht
              clear ht
              have hq5 := D5.out.lt
              obtain ⟨r, hr⟩ : ∃ r, r = wr.heap.size := ⟨_, rfl⟩
              have H0 := Lib.hid (D0.out.alloc (.cells noughts64.toArray 123))
              have H3 := Lib.hid (D3.out.alloc (.cells noughts64.toArray 123))
              have H5 := Lib.hid (D5.out.alloc (.cells noughts64.toArray 123))
              have H6 := Lib.hid (Blk.new wr 123 noughts64)
              rw [← hr] at H6 hq5
              have Hr := Lib.hid hr
              clear hr D0 D3 D5
              go_wp2_with fail
              rw [← Hr.out]
              clear Hr
              simp only [Int.cast_ofNat_Int]
              go_loopw [13] (fun i wr => ∃ k : Nat, k ≤ 16 ∧ i = .int .i64 (k : Int) ∧ Kept w wr key nonce ∧ Blk wr (w.heap.size + 1 + 1 + 1) 126 (ws s) ∧ Blk wr q 126 (ws t) ∧ Blk wr r 123 (bs (blockTo s t k ++ List.replicate (64 - 4 * k) 0))) (fun i _ => 16 - (intOf i).toNat)
              case atStart => exact ⟨0, by omega, rfl, H0.out, H3.out, H5.out, H6.out⟩
              case round =>
                obtain ⟨k, hk, rfl, d0, d3, d5, d6⟩ := hrel
                clear H0 H3 H5 H6
                have D0 := Lib.hid d0
                have D3 := Lib.hid d3
                have D5 := Lib.hid d5
                have D6 := Lib.hid d6
                clear d0 d3 d5 d6
                by_cases hlt : k < 16
                · have i3 : (k : Int) < 16 := by omega
                  have p0 := D3.out.cellAt (ws_get s k (by rw [HS.out]; exact hlt))
                  have p1 := D5.out.cellAt (ws_get t k (by rw [HT.out]; exact hlt))
                  obtain ⟨x, hx⟩ : ∃ x, x = s.getD k 0 := ⟨_, rfl⟩
                  obtain ⟨y, hy⟩ : ∃ y, y = t.getD k 0 := ⟨_, rfl⟩
                  rw [← hx] at p0
                  rw [← hy] at p1
                  obtain ⟨z, hz⟩ : ∃ z, z = y + x := ⟨_, rfl⟩
                  have HXY := Lib.hid (show blockTo s t (k + 1) = blockTo s t k ++ putB z.toNat 4 by rw [hz, hx, hy, UInt32.add_comm]; rfl)
                  have hxy := add_val y x
                  rw [← hz] at hxy
                  clear hx hy hz
                  go_wp2_with fail
                  try simp only [Act.put]
                  go_quiet (fail)
                  go_wp2_with fail
                  have E0 := Lib.hid (show Kept w (wr.drewN nq) key nonce from ⟨D0.out.1, D0.out.2.1, D0.out.2.2.1, ⟨D0.out.2.2.2.os, D0.out.2.2.2.tape, D0.out.2.2.2.output, D0.out.2.2.2.size, D0.out.2.2.2.block⟩⟩)
                  have E3 := Lib.hid (show Blk (wr.drewN nq) (w.heap.size + 1 + 1 + 1) 126 (ws s) from D3.out)
                  have E5 := Lib.hid (show Blk (wr.drewN nq) q 126 (ws t) from D5.out)
                  have E6 := Lib.hid (show Blk (wr.drewN nq) r 123 (bs (blockTo s t k ++ List.replicate (64 - 4 * k) 0)) from D6.out)
                  clear p0 p1 D0 D3 D5 D6
                  simp only [hxy]
                  clear hxy
                  go_loopw [15] (fun i wr => ∃ j : Nat, j ≤ 4 ∧ i = .int .i64 (j : Int) ∧ Kept w wr key nonce ∧ Blk wr (w.heap.size + 1 + 1 + 1) 126 (ws s) ∧ Blk wr q 126 (ws t) ∧ Blk wr r 123 (bs (blockTo s t k ++ (putB z.toNat j ++ List.replicate (64 - 4 * k - j) 0)))) (fun i _ => 4 - (intOf i).toNat)
                  case atStart => exact ⟨0, by omega, rfl, E0.out, E3.out, E5.out, by simpa [putB] using E6.out⟩
                  case round =>
                    obtain ⟨j, hj, rfl, d0, d3, d5, d6⟩ := hrel
                    clear E0 E3 E5 E6
                    have D0 := Lib.hid d0
                    have D3 := Lib.hid d3
                    have D5 := Lib.hid d5
                    have D6 := Lib.hid d6
                    clear d0 d3 d5 d6
                    by_cases hlt : j < 4
                    · have i6 : 4 * (k : Int) + (j : Int) < 64 := by omega
                      have Hp := Lib.hid (pow_div z.toNat j)
                      have Hm := Lib.hid (put_mod z.toNat j)
                      have hfill : (bs (blockTo s t k ++ (putB z.toNat j ++ List.replicate (64 - 4 * k - j) 0))).length = 64 := by rw [bs_length]; simp [blockTo_length, putB_length]; omega
                      have HF := Lib.hid hfill
                      clear hfill
                      go_wp2_with (first
                        | (refine wpList_put rfl 5 (.tmp 81) (.tmp 80) rfl rfl rfl D6.out (vs := [.int .u8 ((z.toNat : Int) / 2 ^ (8 * j) % 256)]) rfl info5 (by rw [HF.out]; simp; omega) (by simp [Value.oneCell']) ?_; intro w8 hP8 hg8))
                      go_roundw
                      case rel =>
                        exact ⟨j + 1, by omega, by go_num, D0.out.grown hg8 (by omega), D3.out.grown hg8 (by simp; omega), D5.out.grown hg8 (by simp; omega), by
                          rw [Hp.out, Hm.out] at hP8
                          rw [← lay_byte s t z.toNat k j (by omega) hlt]
                          exact hP8⟩
                      case measure => simp [intOf]; omega
                    · obtain rfl : j = 4 := by omega
                      have D6' := Lib.hid (show Blk wr r 123 (bs (blockTo s t (k + 1) ++ List.replicate (64 - 4 * (k + 1)) 0)) by
                        rw [HXY.out, List.append_assoc]
                        exact D6.out)
                      clear D6
                      go_wp2_with fail
                      go_roundw
                      case rel => exact ⟨k + 1, by omega, by go_num, D0.out, D3.out, D5.out, D6'.out⟩
                      case measure => simp [intOf]; omega
                · obtain rfl : k = 16 := by omega
                  have HE := Lib.hid (show Blk wr r 123 (bs (blockB key nonce ctr)) by
                    have h := D6.out
                    rw [HTE.out, HSE.out] at h
                    simpa [blockB] using h)
                  have hl64 : (bs (blockB key nonce ctr)).length = 64 := by rw [bs_length, blockB_length]
                  have h1c := bs_one (blockB key nonce ctr)
                  generalize hX : bs (blockB key nonce ctr) = X at *
                  have HX := Lib.hid hX
                  clear hX
                  have HLn := Lib.hid hl64
                  have HOne := Lib.hid h1c
                  clear hl64 h1c
                  go_wp2_with (first
                    | (refine wpList_getAll rfl 123 (.tmp 12) rfl rfl HE.out Try.underlying123 rfl info123 HLn.out ?_)
                    | (refine wpList_putAll rfl 123 (.tmp 6) (.tmp 82) rfl (vs := X) rfl rfl D0.out.2.2.1 info123 HLn.out rfl HOne.out ?_; intro w2 hB3 hg2; have H3 := Lib.hid hB3; clear hB3))
                  have hbel := D0.out.2.2.2.grown hg2 D0.out.2.2.2.size (fun j hj => by cases hj; omega)
                  refine bodyPost_ret (results_blk (cs := X) rfl _ rfl H3.out Try.underlying123 rfl (by rw [HLn.out]; exact info123)) rfl ⟨by rw [HX.out], hbel⟩
end Go.Proofs.Ytbdnoiaglighhaa
