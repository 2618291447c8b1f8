/- The walk of chac.Block. No statement is proved here. -/
import Derived.Test.YtbdnoiaglighhaaChacE
import Derived.Test.YtbdnoiaglighhaaChacB
import Derived.Test.YtbdnoiaglighhaaArr
namespace Go.Proofs.Ytbdnoiaglighhaa
set_option linter.unusedVariables false
set_option linter.unusedSimpArgs false
open Go.RowKit

def noughts64 : List Value := List.replicate 64 (.int .u8 0)
theorem info123 : (Try.prog.info? 123).map (·.size) = some 64 := by kernel_rfl
theorem info58 : (Try.prog.info? 58).map (·.size) = some 32 := by kernel_rfl
theorem info48 : (Try.prog.info? 48).map (·.size) = some 12 := by kernel_rfl
/-- A state that is filled as far as A. -/
def fillS (A : List UInt32) (n : Nat) : List Value := ws (A ++ List.replicate n 0)
theorem fillS_length (A : List UInt32) (n : Nat) : (fillS A n).length = A.length + n := by simp [fillS, ws]
theorem fillS_put (A : List UInt32) (n k : Nat) (x : UInt32) (h : A.length = k) : lay (fillS A (n + 1)) k [wrd x] = fillS (A ++ [x]) n := by
  subst h
  rw [lay_one _ _ _ (by rw [fillS_length]; omega)]
  unfold fillS ws
  rw [← List.map_set, List.set_append_right _ _ (Nat.le_refl _), Nat.sub_self, List.replicate_succ, List.set_cons_zero]
  simp
/-- What four bytes of a row of bytes are, as the number that is told of them. -/
theorem arr58 : ArrOf Try.prog 58 32 := ⟨_, Try.underlying58, by kernel_rfl⟩
theorem arr48 : ArrOf Try.prog 48 12 := ⟨_, Try.underlying48, by kernel_rfl⟩
theorem arr123 : ArrOf Try.prog 123 64 := ⟨_, Try.underlying123, by kernel_rfl⟩
theorem get4 (A : Option Addr) (c : Nat) (l : List UInt8) (w : World) (h4 : l.length = 4) (hr : Rd w A (bs l)) :
    Calls Try.prog 86 #[.slice A 4 c] w fun e w' => e = .returned (.int .u64 (getB l : Nat)) ∧ w = w' := by
  have h := get_at A 4 c l w h4 hr (by omega)
  rwa [List.take_of_length_le (by omega)] at h
theorem rget4 (A : Option Addr) (c : Nat) (l : List UInt8) (w : World) (h4 : l.length = 4) (hr : Rd w A (bs l)) :
    Calls Try.prog 89 #[.slice A 4 c] w fun e w' => e = .returned (.int .u64 (getB l : Nat)) ∧ w = w' := by
  have h := rget_at A 4 c l w h4 hr (by omega)
  rwa [List.take_of_length_le (by omega)] at h
/-- The key's box, the nonce's, the result's. -/
def Kept (w0 w : World) (key nonce : List UInt8) : Prop := Blk w w0.heap.size 58 (bs key) ∧ Blk w (w0.heap.size + 1) 48 (bs nonce) ∧ Blk w (w0.heap.size + 1 + 1) 123 noughts64 ∧ Below w0.heap.size w0 w
section
variable {w0 w w' : World} {key nonce : List UInt8}
theorem Kept.grown {g : Nat} (h : Kept w0 w key nonce) (hg : w.grownBy w' (some g)) (hb : w0.heap.size + 1 + 1 < g) : Kept w0 w' key nonce :=
  ⟨h.1.grown hg (by simp; omega), h.2.1.grown hg (by simp; omega), h.2.2.1.grown hg (by simp; omega), h.2.2.2.grown hg (by have := h.1.lt; omega) (fun j hj => by cases hj; omega)⟩
theorem Kept.below {B : Nat} (h : Kept w0 w key nonce) (hb : Below B w w') (hB : w0.heap.size + 1 + 1 < B) : Kept w0 w' key nonce :=
  ⟨h.1.below hb (by omega), h.2.1.below hb (by omega), h.2.2.1.below hb (by omega), h.2.2.2.trans (hb.mono (by omega))⟩
theorem Kept.alloc (h : Kept w0 w key nonce) (o : Obj) : Kept w0 (w.alloc o) key nonce :=
  ⟨h.1.alloc o, h.2.1.alloc o, h.2.2.1.alloc o, h.2.2.2.alloc (by have := h.1.lt; omega) o⟩
theorem Kept.drew (h : Kept w0 w key nonce) : Kept w0 w.drew key nonce := ⟨h.1, h.2.1, h.2.2.1, h.2.2.2.drew⟩
theorem Kept.start (w : World) (key nonce : List UInt8) : Kept w ((((w.alloc (.cells (bs key).toArray 58)).alloc (.cells (bs nonce).toArray 48)).alloc (.cells noughts64.toArray 123)).alloc (.cells noughts16.toArray 126)) key nonce := by
  refine ⟨(((Blk.new w 58 (bs key)).alloc _).alloc _).alloc _, ?_, ?_, ((((Below.refl _ _).alloc (Nat.le_refl _) _).alloc (by simp) _).alloc (by simp; omega) _).alloc (by simp; omega) _⟩
  · have := ((Blk.new (w.alloc (.cells (bs key).toArray 58)) 48 (bs nonce)).alloc (.cells noughts64.toArray 123)).alloc (.cells noughts16.toArray 126)
    rwa [World.size_alloc] at this
  · have := (Blk.new ((w.alloc (.cells (bs key).toArray 58)).alloc (.cells (bs nonce).toArray 48)) 123 noughts64).alloc (.cells noughts16.toArray 126)
    rwa [World.size_alloc, World.size_alloc] at this
end
theorem bs_cut (l : List UInt8) (o n : Nat) : cut (bs l) o n = bs ((l.drop o).take n) := by simp [cut, bs, List.map_drop, List.map_take]

theorem info5 : (Try.prog.info? 5).map (·.size) = some 1 := by kernel_rfl
theorem lay_block (s t : List UInt32) (z : UInt32) (k : Nat) (h : k < 16) (hz : blockTo s t (k + 1) = blockTo s t k ++ putB z.toNat 4) :
    lay (bs (blockTo s t k ++ List.replicate (64 - 4 * k) 0)) (4 * k) (bs (putB z.toNat 4)) = bs (blockTo s t (k + 1) ++ List.replicate (64 - 4 * (k + 1)) 0) := by
  unfold lay
  rw [hz, bs_append, bs_append, bs_append, List.take_left' (by rw [bs_length, blockTo_length]), bs_length, putB_length, List.append_assoc, List.drop_append, List.drop_of_length_le (by rw [bs_length, blockTo_length]; omega), List.nil_append, bs_length, blockTo_length]
  simp [bs, show 4 * k + 4 - 4 * k = 4 by omega, show 64 - 4 * k - 4 = 64 - 4 * (k + 1) by omega]
theorem own_slice {w : World} {base : Nat} {e : TypeId} {size n : Nat} {v : Value} {xs : List Value} (h : w.ownsRow base e size v n xs) : ∃ A c, v = .slice A n c := by
  rcases h.2 with ⟨hv, h0⟩ | ⟨g, cap, cur, hv, _⟩
  · exact ⟨none, 0, by rw [hv, h0]⟩
  · exact ⟨_, _, hv⟩

set_option maxHeartbeats 4000000 in
set_option maxRecDepth 100000 in
theorem block_calls (key nonce : List UInt8) (ctr : UInt32) (hk : key.length = 32) (hn : nonce.length = 12) (w : World) :
    Calls Try.prog 102 #[.agg (bs key).toArray, .agg (bs nonce).toArray, .int .u32 (ctr.toNat : Int)] w fun e w' => e = .returned (.agg (bs (blockB key nonce ctr)).toArray) ∧ Below w.heap.size w w' := by
  have HK := Lib.hid hk
  have HN := Lib.hid hn
  clear hk hn
  have b3 : Blk ((((w.alloc (.cells (bs key).toArray 58)).alloc (.cells (bs nonce).toArray 48)).alloc (.cells noughts64.toArray 123)).alloc (.cells noughts16.toArray 126)) (w.heap.size + 1 + 1 + 1) 126 noughts16 := by
    have := Blk.new (((w.alloc (.cells (bs key).toArray 58)).alloc (.cells (bs nonce).toArray 48)).alloc (.cells noughts64.toArray 123)) 126 noughts16
    rwa [World.size_alloc, World.size_alloc, World.size_alloc] at this
  have KP := Lib.hid (Kept.start w key nonce)
  have B3 := Lib.hid b3
  clear b3
  go_enter Try.func102, Try.ntmps102
  go_wp2_with (first
    | (refine wpList_putAll rfl 126 (.tmp 7) (.tmp 13) rfl (vs := fillS head4 12) rfl rfl B3.out info126 (by decide) (by decide) (by decide) ?_; intro w2 hP2 hg2))
  have K2 := Lib.hid (KP.out.grown hg2 (by omega))
  clear hg2 KP B3
  go_loopw [14] (fun i wr => ∃ k : Nat, k ≤ 8 ∧ i = .int .i64 (k : Int) ∧ Kept w wr key nonce ∧ Blk wr (w.heap.size + 1 + 1 + 1) 126 (fillS (head4 ++ wordsTo key k) (12 - k))) (fun i _ => 8 - (intOf i).toNat)
  case atStart => exact ⟨0, by omega, rfl, K2.out, hP2⟩
  case round =>
    obtain ⟨k, hk, rfl, d0, d3⟩ := hrel
    clear K2 hP2 w2
    have D0 := Lib.hid d0
    have D3 := Lib.hid d3
    clear d0 d3
    by_cases hlt : k < 8
    · have hsl := arr58.lh w.heap.size 0 (4 * k) (4 * k + 4) (L := 4 * (k : Int)) (H := 4 * (k : Int) + 4) (by omega) (by omega) (by omega) (by omega) (by omega)
      rw [Nat.zero_add, Nat.add_sub_cancel_left] at hsl
      go_wp2_with fail
      refine (get4 _ _ ((key.drop (4 * k)).take 4) _ (by simp; have := HK.out; omega) (by rw [← bs_cut]; exact D0.out.1.rd (by rw [bs_length, HK.out]; omega))).mono ?_
      rintro e w3 ⟨rfl, rfl⟩
      have hx : getB ((key.drop (4 * k)).take 4) < 4294967296 := Nat.lt_of_lt_of_le (getB_lt _) (Nat.pow_le_pow_right (by decide) (by simp; omega) : _ ≤ 256 ^ 4)
      obtain ⟨g, hg⟩ : ∃ g, g = getB ((key.drop (4 * k)).take 4) := ⟨_, rfl⟩
      rw [← hg] at hx ⊢
      have HW := Lib.hid (show [Value.int .u32 (g : Int)] = [wrd (wordAt key k)] by unfold wrd wordAt; rw [← hg, UInt32.toNat_ofNat', Nat.mod_eq_of_lt hx])
      clear hg
      go_wp2_with (first
        | (refine wpList_put rfl 59 (.tmp 27) (.tmp 26) rfl rfl rfl D3.out (vs := [.int .u32 (g : Int)]) rfl (by kernel_rfl) (by rw [fillS_length]; simp [wordsTo_length, head4]; omega) (by simp [Value.oneCell']) ?_; intro w4 hP4 hg4))
      go_roundw
      case rel => exact ⟨k + 1, by omega, by go_num, D0.out.grown hg4 (by omega), by
        rw [HW.out, show 12 - k = 12 - (k + 1) + 1 by omega, fillS_put _ _ _ _ (by simp [wordsTo_length, head4]; omega), List.append_assoc] at hP4
        exact hP4⟩
      case measure => simp [intOf]; omega
    · obtain rfl : k = 8 := by omega
      go_wp2_with (first
        | (refine wpList_put rfl 59 (.tmp 30) (.tmp 29) rfl rfl rfl D3.out (vs := [wrd ctr]) rfl (by kernel_rfl) (by rw [fillS_length]; simp [wordsTo_length, head4]) (by simp [wrd, Value.oneCell']) ?_; intro w4 hP4 hg4))
      rw [fillS_put _ 3 _ _ (by simp [wordsTo_length, head4])] at hP4
      have K4 := Lib.hid (D0.out.grown hg4 (by omega))
      clear hg4 D0 D3
      go_loopw [31] (fun i wr => ∃ k : Nat, k ≤ 3 ∧ i = .int .i64 (k : Int) ∧ Kept w wr key nonce ∧ Blk wr (w.heap.size + 1 + 1 + 1) 126 (fillS (head4 ++ wordsTo key 8 ++ [ctr] ++ wordsTo nonce k) (3 - k))) (fun i _ => 3 - (intOf i).toNat)
      case atStart => exact ⟨0, by omega, rfl, K4.out, by simpa [wordsTo] using hP4⟩
      case round =>
        obtain ⟨k, hk, rfl, d0, d3⟩ := hrel
        clear K4 hP4 w4
        have D0 := Lib.hid d0
        have D3 := Lib.hid d3
        clear d0 d3
        by_cases hlt : k < 3
        · have hsl := arr48.lh (w.heap.size + 1) 0 (4 * k) (4 * k + 4) (L := 4 * (k : Int)) (H := 4 * (k : Int) + 4) (by omega) (by omega) (by omega) (by omega) (by omega)
          rw [Nat.zero_add, Nat.add_sub_cancel_left] at hsl
          go_wp2_with fail
          refine (get4 _ _ ((nonce.drop (4 * k)).take 4) _ (by simp; have := HN.out; omega) (by rw [← bs_cut]; exact D0.out.2.1.rd (by rw [bs_length, HN.out]; omega))).mono ?_
          rintro e w3 ⟨rfl, rfl⟩
          have hx : getB ((nonce.drop (4 * k)).take 4) < 4294967296 := Nat.lt_of_lt_of_le (getB_lt _) (Nat.pow_le_pow_right (by decide) (by simp; omega) : _ ≤ 256 ^ 4)
          obtain ⟨g, hg⟩ : ∃ g, g = getB ((nonce.drop (4 * k)).take 4) := ⟨_, rfl⟩
          rw [← hg] at hx ⊢
          have HW := Lib.hid (show [Value.int .u32 (g : Int)] = [wrd (wordAt nonce k)] by unfold wrd wordAt; rw [← hg, UInt32.toNat_ofNat', Nat.mod_eq_of_lt hx])
          clear hg
          go_wp2_with (first
            | (refine wpList_put rfl 59 (.tmp 44) (.tmp 43) rfl rfl rfl D3.out (vs := [.int .u32 (g : Int)]) rfl (by kernel_rfl) (by rw [fillS_length]; simp [wordsTo_length, head4]; omega) (by simp [Value.oneCell']) ?_; intro w4 hP4 hg4))
          go_roundw
          case rel => exact ⟨k + 1, by omega, by go_num, D0.out.grown hg4 (by omega), by
            rw [HW.out, show 3 - k = 3 - (k + 1) + 1 by omega, fillS_put _ _ _ _ (by simp [wordsTo_length, head4]; omega), List.append_assoc _ _ [_]] at hP4
            exact hP4⟩
          case measure => simp [intOf]; omega
        · obtain rfl : k = 3 := by omega
          have HI : fillS (head4 ++ wordsTo key 8 ++ [ctr] ++ wordsTo nonce 3) (3 - 3) = ws (initS key nonce ctr) := by simp [fillS, initS]
          have E3 := Lib.hid (HI ▸ D3.out)
          clear D3 HI
          obtain ⟨s, hs⟩ : ∃ s, s = initS key nonce ctr := ⟨_, rfl⟩
          have HS := Lib.hid (show s.length = 16 by rw [hs, initS_length])
          rw [← hs] at E3
          have HSE := Lib.hid hs
          clear hs
          have hsz := E3.out.lt
          obtain ⟨q, hq⟩ : ∃ q, q = wr.heap.size := ⟨_, rfl⟩
          have HP := Lib.hid (Blk.new wr 126 noughts16)
          rw [← hq] at HP
          have Hq := Lib.hid hq
          rw [← hq] at hsz
          clear hq
          go_wp2_with (first
            | (refine wpList_getAll rfl 126 (.tmp 7) rfl rfl E3.out Try.underlying126 rfl info126 (by rw [ws_length, HS.out]) ?_)
            | (refine wpList_putAll rfl 126 (.tmp 10) (.tmp 46) rfl (vs := ws s) rfl rfl (by rw [← Hq.out]; exact HP.out) info126 (by rw [ws_length, HS.out]) (by decide) (ws_one s) ?_; intro w5 hP5 hg5))
          rw [← Hq.out] at hP5
          have hg := grown_alloc hg5
          rw [← Hq.out] at hg
          clear hg5
          have K5 := Lib.hid (D0.out.grown hg (by omega))
          have F3 := Lib.hid (E3.out.grown hg (by simp; omega))
          clear hg D0 E3 HP
          rw [← Hq.out]
          clear Hq
          go_loopw [47] (fun i wr => ∃ k : Nat, k ≤ 10 ∧ i = .int .i64 (k : Int) ∧ Kept w wr key nonce ∧ Blk wr (w.heap.size + 1 + 1 + 1) 126 (ws s) ∧ Blk wr q 126 (ws (dblTo s k))) (fun i _ => 10 - (intOf i).toNat)
          case atStart => exact ⟨0, by omega, rfl, K5.out, F3.out, hP5⟩
          case round =>
            obtain ⟨k, hk, rfl, d0, d3, d5⟩ := hrel
            clear K5 F3 hP5 w5
            have D0 := Lib.hid d0
            have D3 := Lib.hid d3
            have D5 := Lib.hid d5
            clear d0 d3 d5
            by_cases hlt : k < 10
            · go_wp2_with (first
                | (refine wpList_getAll rfl 126 (.tmp 10) rfl rfl D5.out Try.underlying126 rfl info126 (by rw [ws_length, dblTo_length, HS.out]) ?_))
              refine (double_calls _ (by rw [dblTo_length, HS.out]) _).mono ?_
              rintro e w6 ⟨rfl, hb6⟩
              have G0 := Lib.hid (D0.out.below hb6 (by have := D5.out.lt; omega))
              have G3 := Lib.hid (D3.out.below hb6 D3.out.lt)
              have G5 := Lib.hid (D5.out.below hb6 D5.out.lt)
              clear hb6 D0 D3 D5
              have HD : dbl (dblTo s k) = dblTo s (k + 1) := rfl
              rw [HD]
              clear HD
              go_wp2_with (first
                | (refine wpList_putAll rfl 126 (.tmp 10) (.tmp 50) rfl (vs := ws (dblTo s (k + 1))) rfl rfl G5.out info126 (by rw [ws_length, dblTo_length, HS.out]) (by rw [ws_length, dblTo_length, HS.out]) (ws_one _) ?_; intro w7 hP7 hg7))
              go_roundw
              case rel => exact ⟨k + 1, by omega, by go_num, G0.out.grown hg7 (by omega), G3.out.grown hg7 (by simp; omega), hP7⟩
              case measure => simp [intOf]; omega
            · obtain rfl : k = 10 := by omega
              obtain ⟨t, ht⟩ : ∃ t, t = dblTo s 10 := ⟨_, rfl⟩
              have HT := Lib.hid (show t.length = 16 by rw [ht, dblTo_length, HS.out])
              rw [← ht] at D5
              have HTE := Lib.hid ht
              clear ht
              have hq5 := D5.out.lt
              obtain ⟨r, hr⟩ : ∃ r, r = wr.heap.size := ⟨_, rfl⟩
              have H0 := Lib.hid (D0.out.alloc (.cells noughts64.toArray 123))
              have H3 := Lib.hid (D3.out.alloc (.cells noughts64.toArray 123))
              have H5 := Lib.hid (D5.out.alloc (.cells noughts64.toArray 123))
              have H6 := Lib.hid (Blk.new wr 123 noughts64)
              rw [← hr] at H6 hq5
              have Hr := Lib.hid hr
              clear hr D0 D3 D5
              go_wp2_with fail
              rw [← Hr.out]
              clear Hr
              go_loopw [52] (fun i wr => ∃ k : Nat, k ≤ 16 ∧ i = .int .i64 (k : Int) ∧ Kept w wr key nonce ∧ Blk wr (w.heap.size + 1 + 1 + 1) 126 (ws s) ∧ Blk wr q 126 (ws t) ∧ Blk wr r 123 (bs (blockTo s t k ++ List.replicate (64 - 4 * k) 0))) (fun i _ => 16 - (intOf i).toNat)
              case atStart => exact ⟨0, by omega, rfl, H0.out, H3.out, H5.out, H6.out⟩
              case round =>
                obtain ⟨k, hk, rfl, d0, d3, d5, d6⟩ := hrel
                clear H0 H3 H5 H6
                have D0 := Lib.hid d0
                have D3 := Lib.hid d3
                have D5 := Lib.hid d5
                have D6 := Lib.hid d6
                clear d0 d3 d5 d6
                by_cases hlt : k < 16
                · have i3 : (k : Int) < 16 := by omega
                  have p0 := (show Blk wr.drew (w.heap.size + 1 + 1 + 1) 126 (ws s) from D3.out).cellAt (ws_get s k (by rw [HS.out]; exact hlt))
                  have p1 := (show Blk wr.drew q 126 (ws t) from D5.out).cellAt (ws_get t k (by rw [HT.out]; exact hlt))
                  have hsl := arr123.l r 0 (4 * k) (L := 4 * (k : Int)) (by omega) (by omega)
                  rw [Nat.zero_add] at hsl
                  have HX := Lib.hid (show blockTo s t (k + 1) = blockTo s t k ++ putB (s.getD k 0 + t.getD k 0).toNat 4 from rfl)
                  obtain ⟨x, hx⟩ : ∃ x, x = s.getD k 0 := ⟨_, rfl⟩
                  obtain ⟨y, hy⟩ : ∃ y, y = t.getD k 0 := ⟨_, rfl⟩
                  rw [← hx] at p0
                  rw [← hy] at p1
                  have HXY := Lib.hid (show blockTo s t (k + 1) = blockTo s t k ++ putB (x + y).toNat 4 by rw [hx, hy]; exact HX.out)
                  clear hx hy HX
                  have hxy := add_val x y
                  go_wp2_with fail
                  try simp only [Act.put]
                  refine wp_region_mix [(false, 0), (false, 1), (false, 2), (true, 3), (true, 4), (true, 5), (true, 6), (true, 7), (true, 8), (true, 9), (true, 10)] [11, 12] (by kernel_rfl) (by kernel_rfl) (fun _ => True) trivial ?_
                  refine wpHead_late rfl (fun K hK => ⟨.int .i64 (k : Int), fun w' hC => ⟨rfl, ?_⟩, hK _ ?_⟩)
                  · clear hK K
                    go_simp
                  clear hK K
                  refine wpHead_late rfl (fun K hK => ⟨.int .i64 (4 * (k : Int)), fun w' hC => ⟨rfl, ?_⟩, hK _ ?_⟩)
                  · clear hK K
                    go_simp
                    exact IntKind.wrap_i64_small (by omega) (by omega)
                  clear hK K
                  refine wpHead_late rfl (fun K hK => ⟨.slice (some ⟨r, 4 * k, none⟩) (64 - 4 * k) (64 - 4 * k), fun w' hC => ⟨rfl, ?_⟩, hK _ ?_⟩)
                  · clear hK K
                    go_simp
                  clear hK K
                  iterate 8
                    refine wpHead_early rfl (fun K hK => ?_)
                    go_simp
                    refine hK _ ?_
                    clear hK K
                  refine wpStores_call (f := 81) rfl rfl (by exact exec_enter (xl := [.tmp 65, .const (.int .i64 4)]) rfl rfl Try.func81 rfl rfl _) (put_at (x + y).toNat 4 _ _ _ ?_ rfl (by decide)) ?_
                  · show (_ : Int) = _
                    rw [IntKind.wrap_u32', hxy, IntKind.wrap_u64]
                    have := (x + y).toNat_lt
                    omega
                  rintro e w7 ⟨v, rfl, hown, hb7⟩
                  refine ⟨v, rfl, trivial, ?_⟩
                  have hG0 := Lib.hid (D0.out.drew.below hb7 (show w.heap.size + 1 + 1 < wr.heap.size by have := D5.out.lt; omega))
                  have hG3 := Lib.hid ((show Blk wr.drew (w.heap.size + 1 + 1 + 1) 126 (ws s) from D3.out).below hb7 D3.out.lt)
                  have hG5 := Lib.hid ((show Blk wr.drew q 126 (ws t) from D5.out).below hb7 D5.out.lt)
                  have hG6 := Lib.hid ((show Blk wr.drew r 123 (bs (blockTo s t k ++ List.replicate (64 - 4 * k) 0)) from D6.out).below hb7 D6.out.lt)
                  clear hb7
                  obtain ⟨A, c, rfl⟩ := own_slice hown
                  have hfill : (bs (blockTo s t k ++ List.replicate (64 - 4 * k) 0)).length = 64 := by rw [bs_length]; simp [blockTo_length]; omega
                  refine wpStores_copy (news := bs (putB (x + y).toNat 4)) rfl rfl (.tmp 57) (.tmp 66) 41 41 5 rfl Try.underlying41 info5 rfl rfl (.of_own hown) (by rw [bs_length, putB_length]; decide) (by rw [bs_length, putB_length]) (by omega) hG6.out (by rw [hfill, bs_length, putB_length]; omega) (bs_one _) ?_
                  intro w8 hP8 hg8
                  refine ⟨trivial, ?_⟩
                  rw [lay_block s t (x + y) k hlt HXY.out] at hP8
                  have hr8 := hG6.out.lt
                  simp only [Act.put, List.setIfInBounds_toArray, List.set_cons_zero, List.set_cons_succ]
                  unfold wpStores
                  go_wp2
                  go_roundw
                  case rel =>
                    refine ⟨_, _, _, _, _, _, _, _, _, _, _, _, _, _, _, _, _, _, ?_, rfl⟩
                    exact ⟨k + 1, by omega, by go_num, hG0.out.grown hg8 (by omega), hG3.out.grown hg8 (by simp; omega), hG5.out.grown hg8 (by simp; omega), hP8⟩
                  case measure => simp [intOf]; omega
                · obtain rfl : k = 16 := by omega
                  have HE := Lib.hid (show Blk wr r 123 (bs (blockB key nonce ctr)) by
                    have h := D6.out
                    rw [HTE.out, HSE.out] at h
                    simpa [blockB] using h)
                  have hl64 : (bs (blockB key nonce ctr)).length = 64 := by rw [bs_length, blockB_length]
                  have h1c := bs_one (blockB key nonce ctr)
                  generalize hX : bs (blockB key nonce ctr) = X at *
                  have HX := Lib.hid hX
                  clear hX
                  have HLn := Lib.hid hl64
                  have HOne := Lib.hid h1c
                  clear hl64 h1c
                  go_wp2_with (first
                    | (refine wpList_getAll rfl 123 (.tmp 11) rfl rfl HE.out Try.underlying123 rfl info123 HLn.out ?_)
                    | (refine wpList_putAll rfl 123 (.tmp 6) (.tmp 69) rfl (vs := X) rfl rfl D0.out.2.2.1 info123 HLn.out rfl HOne.out ?_; intro w2 hB3 hg2; have H3 := Lib.hid hB3; clear hB3))
                  have hbel := D0.out.2.2.2.grown hg2 D0.out.2.2.2.size (fun j hj => by cases hj; omega)
                  refine bodyPost_ret (results_blk (cs := X) rfl _ rfl H3.out Try.underlying123 rfl (by rw [HLn.out]; exact info123)) rfl ⟨by rw [HX.out], hbel⟩
end Go.Proofs.Ytbdnoiaglighhaa
