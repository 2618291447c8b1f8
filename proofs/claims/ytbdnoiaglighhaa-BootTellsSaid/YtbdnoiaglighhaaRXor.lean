/- The walk of the reference's Xor. No statement is proved here. -/
import Derived.Test.YtbdnoiaglighhaaXorW
namespace Go.Proofs.Ytbdnoiaglighhaa
set_option linter.unusedVariables false
set_option linter.unusedSimpArgs false
open Go.RowKit

set_option maxHeartbeats 4000000 in
set_option maxRecDepth 100000 in
theorem rxor_pos (key nonce b : List UInt8) (A : Option Addr) (c : Nat) (hk : key.length = 32) (hn : nonce.length = 12) (hb : b.length ≤ 16777216) (w : World) (hr : Rd w A (bs b)) :
    Calls Try.prog 87 #[.agg (bs key).toArray, .agg (bs nonce).toArray, .int .u32 0, .slice A b.length c] w fun e w' =>
      ∃ v, e = .returned (.tuple #[v, .bool true]) ∧ w'.ownsRow w.heap.size 5 1 v b.length (bs (xorA key nonce b)) ∧ Below w.heap.size w w' := by
  have HK := Lib.hid hk
  have HN := Lib.hid hn
  obtain ⟨n, hn⟩ : ∃ n, n = b.length := ⟨_, rfl⟩
  rw [← hn] at hb ⊢
  have hz : ((n : Int) + 63) / 64 ≤ 4294967296 := by omega
  have Hn := Lib.hid hn
  clear hk hn
  have B0 := Lib.hid ((Blk.new w 58 (bs key)).alloc (.cells (bs nonce).toArray 48))
  have B1 := Lib.hid (show Blk ((w.alloc (.cells (bs key).toArray 58)).alloc (.cells (bs nonce).toArray 48)) (w.heap.size + 1) 48 (bs nonce) by
    have := Blk.new (w.alloc (.cells (bs key).toArray 58)) 48 (bs nonce)
    rwa [World.size_alloc] at this)
  have BB := Lib.hid (((Below.refl w.heap.size w).alloc (Nat.le_refl _) (.cells (bs key).toArray 58)).alloc (by simp) (.cells (bs nonce).toArray 48))
  have hr2 := ((hr.alloc (.cells (bs key).toArray 58)).alloc (.cells (bs nonce).toArray 48)).alloc (.cells #[] 5)
  have hown0 := own_empty ((w.alloc (.cells (bs key).toArray 58)).alloc (.cells (bs nonce).toArray 48)) (w.heap.size + 2) (by simp)
  rw [World.size_alloc, World.size_alloc] at hown0
  go_enter Try.func87, Try.ntmps87
  go_wp2_with (first
    | (at_builtin; refine wpList_appAny (v := .slice (some ⟨w.heap.size + 1 + 1, 0, none⟩) 0 0) S41 rfl _ _ rfl rfl rfl hown0 hr2 (by rw [bs_length, ← Hn.out]; omega) (bs_one _) (by omega) (by unfold maxLen; omega) (by simp) ?_; intro v2 w2 hown2 hg2 _))
  clear hz
  have K2 := Lib.hid (show w2.ownsRow (w.heap.size + 2) 5 1 v2 n (bs (xorN key nonce 0 b)) by rw [xorN_zero]; simpa using hown2)
  have C0 := Lib.hid (B0.out.alloc (.cells #[] 5) |>.grown hg2 (by simp [Value.ownBlock]; omega))
  have C1 := Lib.hid (B1.out.alloc (.cells #[] 5) |>.grown hg2 (by simp [Value.ownBlock]))
  have CB := Lib.hid ((BB.out.alloc (by simp; omega) (.cells #[] 5)).grown hg2 (by simp; omega) (fun j hj => by simp [Value.ownBlock] at hj; omega))
  obtain ⟨A2, c2, hv2⟩ := own_slice K2.out
  subst hv2
  clear hown2 hg2 B0 B1 BB hown0 hr2 hr
  go_loopw [11] (fun i wr => ∃ q : Nat, 64 * q < n + 64 ∧ i = .int .i64 ((64 * q : Nat) : Int) ∧ wr.ownsRow (w.heap.size + 2) 5 1 (.slice A2 n c2) n (bs (xorN key nonce (64 * q) b)) ∧ Blk wr w.heap.size 58 (bs key) ∧ Blk wr (w.heap.size + 1) 48 (bs nonce) ∧ Below w.heap.size w wr) (fun i _ => n + 64 - (intOf i).toNat)
  case atStart => exact ⟨0, by omega, rfl, K2.out, C0.out, C1.out, CB.out⟩
  case round =>
    obtain ⟨q, hq, rfl, d2, d0, d1, db⟩ := hrel
    clear K2 C0 C1 CB
    have D0 := Lib.hid d0
    have D1 := Lib.hid d1
    have D2 := Lib.hid d2
    have DB := Lib.hid db
    clear d0 d1 d2 db
    by_cases hlt : 64 * q < n
    · obtain ⟨g, hA, hcap, hg2, hg3⟩ := own_at D2.out (by omega)
      subst hA
      have hlt' : ((64 * q : Nat) : Int) < (n : Int) := by omega
      have D2' := D2.out
      obtain ⟨q', hq'⟩ : ∃ q', q' = wr.heap.size := ⟨_, rfl⟩
      go_wp2_with (first
        | (refine wpList_getAll rfl 58 (.tmp 4) rfl rfl D0.out Try.underlying58 rfl info58 (by rw [bs_length, HK.out]) ?_)
        | (refine wpList_getAll rfl 48 (.tmp 5) rfl rfl D1.out Try.underlying48 rfl info48 (by rw [bs_length, HN.out]) ?_))
      refine (rblock_at key nonce (UInt32.ofNat q) _ ?_ HK.out HN.out _).mono ?_
      · rw [UInt32.toNat_ofNat', Nat.mod_eq_of_lt (by omega)]
      rintro e w3 ⟨rfl, hb3⟩
      have F0 := Lib.hid (D0.out.below hb3 D0.out.lt)
      have F1 := Lib.hid (D1.out.below hb3 D1.out.lt)
      have F2 := Lib.hid (own_below D2.out hb3)
      have FB := Lib.hid (DB.out.trans (hb3.mono DB.out.size))
      have hg4 : g < w3.heap.size := Nat.lt_of_lt_of_le hg3 hb3.size
      clear hb3 D0 D1 D2 DB D2' hq' q'
      obtain ⟨r, hr⟩ : ∃ r, r = w3.heap.size := ⟨_, rfl⟩
      have HP := Lib.hid (Blk.new w3 123 noughts64)
      rw [← hr] at HP hg4
      have Hr := Lib.hid hr
      clear hr
      go_wp2_with (first
        | (refine wpList_putAll rfl 123 (.tmp 12) (.tmp 38) rfl (vs := bs (blockB key nonce (UInt32.ofNat q))) rfl rfl (by rw [← Hr.out]; exact HP.out) info123 (by rw [bs_length, blockB_length]) (by decide) (bs_one _) ?_; intro w5 hP5 hg5))
      rw [← Hr.out] at hP5 ⊢
      have hg := grown_alloc hg5
      rw [← Hr.out] at hg
      have G0 := Lib.hid (F0.out.grown hg (by have := F0.out.lt; have := Hr.out; simp; omega))
      have G1 := Lib.hid (F1.out.grown hg (by have := F1.out.lt; have := Hr.out; simp; omega))
      have G2 := Lib.hid (F2.out.kept hg (.inr (by simp [Value.ownBlock]; omega)))
      have GB := Lib.hid (FB.out.grown hg (by have := FB.out.size; omega) (fun j hj => by cases hj; have := FB.out.size; have := Hr.out; omega))
      have GP := Lib.hid hP5
      clear F0 F1 F2 FB hg hg5 hP5 HP Hr
      have hw0 := G0.out.lt
      go_loopw [13] (fun i wr => ∃ j : Nat, (j ≤ 64 ∧ 64 * q + j ≤ n) ∧ i = .int .i64 (j : Int) ∧ wr.ownsRow (w.heap.size + 2) 5 1 (.slice (some ⟨g, 0, none⟩) n c2) n (bs (xorN key nonce (64 * q + j) b)) ∧ Blk wr r 123 (bs (blockB key nonce (UInt32.ofNat q))) ∧ Blk wr w.heap.size 58 (bs key) ∧ Blk wr (w.heap.size + 1) 48 (bs nonce) ∧ Below w.heap.size w wr) (fun i _ => 64 - (intOf i).toNat)
      case atStart => exact ⟨0, ⟨by omega, by omega⟩, rfl, G2.out, GP.out, G0.out, G1.out, GB.out⟩
      case round =>
        obtain ⟨j, ⟨hj, hj2⟩, rfl, d2, dp, d0, d1, db⟩ := hrel
        clear G0 G1 G2 GB GP
        have D0 := Lib.hid d0
        have D1 := Lib.hid d1
        have DP := Lib.hid dp
        have DB := Lib.hid db
        clear d0 d1 dp db
        by_cases hlt : j < 64 ∧ 64 * q + j < n
        · obtain ⟨cs, hcs, hcl, hget, hset⟩ := own_put d2 (j := 64 * q + j) (by omega)
          have hjb : 64 * q + j < b.length := by rw [← Hn.out]; omega
          have hg0 : cs[64 * q + j]? = some (byt b[64 * q + j]) := (hget (64 * q + j) (by omega)).trans (by
            rw [List.getElem?_map, List.getElem?_eq_getElem (by rw [xorN_length]; exact hjb), Option.map_some, xorN_get, if_neg (by omega)])
          have p0 := (show Blk wr.drew g 5 cs from hcs).cellAt hg0
          have hjs : j < (blockB key nonce (UInt32.ofNat q)).length := by rw [blockB_length]; omega
          have p1 := (show Blk wr.drew r 123 _ from DP.out).cellAt (i := j) (v := byt ((blockB key nonce (UInt32.ofNat q))[j])) (by rw [List.getElem?_map, List.getElem?_eq_getElem hjs, Option.map_some])
          have HS := Lib.hid (xorN_succ key nonce (64 * q + j) b hjb)
          have hst : strm key nonce (64 * q + j) = (blockB key nonce (UInt32.ofNat q))[j] := by
            unfold strm
            rw [show (64 * q + j) / 64 = q by omega, show (64 * q + j) % 64 = j by omega, List.getD_eq_getElem?_getD, List.getElem?_eq_getElem hjs]; rfl
          rw [hst] at HS
          have HSet := Lib.hid hset
          have HC := Lib.hid (show Blk wr.drew g 5 cs from hcs)
          have HO := Lib.hid d2
          generalize b[64 * q + j] = x at *
          generalize (blockB key nonce (UInt32.ofNat q))[j] = y at *
          have hxy := xor8 x y
          rw [byt_eq] at p0 p1
          clear hst hset hcs hget hg0 d2
          have i1 : 64 * (q : Int) + (j : Int) < (n : Int) := by omega
          have i2 : (j : Int) < 64 := by omega
          have i0 : (0 : Int) ≤ 64 * (q : Int) + (j : Int) := by omega
          have hwr : IntKind.i64.wrap (64 * (q : Int) + (j : Int)) = 64 * (q : Int) + (j : Int) := by rw [IntKind.wrap_i64]; omega
          have hto : (64 * (q : Int) + (j : Int)).toNat = 64 * q + j := by omega
          go_wp2_with fail
          try simp only [Act.put]
          refine wp_region_mix [(true, 0), (true, 1), (true, 2), (true, 3), (true, 4), (true, 5), (true, 6), (true, 7), (true, 8), (true, 9), (true, 10), (true, 11), (true, 12), (true, 13), (true, 14)] [15] (by kernel_rfl) (by kernel_rfl) (fun _ => True) trivial ?_
          iterate 15
            refine wpHead_early rfl (fun K hK => ?_)
            go_simp
            refine hK _ ?_
            clear hK K
          refine wpStores_put rfl rfl rfl 5 (.tmp 65) (.tmp 64) rfl rfl rfl HC.out (vs := [byt (x ^^^ y)]) ?_ info5 (by simp; omega) (by simp [byt, Value.oneCell']) ?_
          · first
              | rfl
              | (show Value.cells (.int .u8 _) = _; rw [hxy]; rfl)
          intro w8 hP8 hg8
          refine ⟨trivial, ?_⟩
          have hO := HSet.out _ _ hP8
          have hlg : w.heap.size + 1 < g := by omega
          unfold wpStores
          go_wp2
          go_roundw
          case rel => exact ⟨j + 1, ⟨by omega, by omega⟩, by go_num, by
            rw [← Nat.add_assoc, HS.out, bs, List.map_set]; exact hO, (show Blk wr.drew r 123 _ from DP.out).grown hg8 (by simp; omega), (show Blk wr.drew w.heap.size 58 _ from D0.out).grown hg8 (by simp; omega), (show Blk wr.drew (w.heap.size + 1) 48 _ from D1.out).grown hg8 (by simp; omega), (DB.out.drew).grown hg8 (by have := D1.out.lt; show w.heap.size ≤ wr.heap.size; omega) (fun j hj => by cases hj; omega)⟩
          case measure => simp [intOf]; omega
        · have D2 := Lib.hid d2
          clear d2
          have hend : j = 64 ∨ 64 * q + j = n := by omega
          have hs1 : ¬ (j : Int) < 64 ∨ ((j : Int) < 64 ∧ ¬ 64 * (q : Int) + (j : Int) < (n : Int)) := by omega
          rcases hs1 with hs1 | ⟨hs1, hs2⟩
          all_goals
            go_wp2_with fail
            go_roundw
            case rel =>
              by_cases hm64 : j = 64
              · exact ⟨q + 1, by omega, by go_num, by rw [show 64 * (q + 1) = 64 * q + j by omega]; exact D2.out, D0.out, D1.out, DB.out⟩
              · exact ⟨q + 1, by omega, by go_num, by rw [xorN_ge _ _ (64 * (q + 1)) _ (by rw [← Hn.out]; omega), ← xorN_ge _ _ (64 * q + j) _ (by rw [← Hn.out]; omega)]; exact D2.out, D0.out, D1.out, DB.out⟩
            case measure => simp [intOf]; omega
    · have HX := Lib.hid (show wr.ownsRow (w.heap.size + 2) 5 1 (.slice A2 n c2) n (bs (xorA key nonce b)) by
        rw [← xorN_ge key nonce (64 * q) b (by rw [← Hn.out]; omega)]; exact D2.out)
      go_wp2_with fail
      go_ret2
      exact ⟨_, rfl, Joins.ownsRow_le HX.out (by omega), DB.out⟩


theorem rxor_calls (key nonce b : List UInt8) (A : Option Addr) (n c : Nat) (hk : key.length = 32) (hn : nonce.length = 12) (hb : b.length ≤ 16777216) (hl : b.length = n) (w : World) (hr : Rd w A (bs b)) :
    Calls Try.prog 87 #[.agg (bs key).toArray, .agg (bs nonce).toArray, .int .u32 0, .slice A n c] w fun e w' =>
      ∃ v, e = .returned (.tuple #[v, .bool true]) ∧ w'.ownsRow w.heap.size 5 1 v n (bs (xorA key nonce b)) ∧ Below w.heap.size w w' := by
  subst hl
  exact rxor_pos key nonce b A c hk hn hb w hr
end Go.Proofs.Ytbdnoiaglighhaa
