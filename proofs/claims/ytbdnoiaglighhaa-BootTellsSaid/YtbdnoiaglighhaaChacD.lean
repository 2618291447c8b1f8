/- The walk of quar.Double. No statement is proved here. -/
import Derived.Test.YtbdnoiaglighhaaChacX
namespace Go.Proofs.Ytbdnoiaglighhaa
set_option linter.unusedVariables false
set_option linter.unusedSimpArgs false
open Go.RowKit
/-! ### Double -/
def ws (s : List UInt32) : List Value := s.map wrd
theorem info126 : (Try.prog.info? 126).map (·.size) = some 16 := by kernel_rfl
theorem place_bound : ∀ k, k < 8 → ∃ a b c d, places[k]? = some (a, b, c, d) ∧ a < 16 ∧ b < 16 ∧ c < 16 ∧ d < 16 ∧ cut placeCells (4 * k) 4 = row4 a b c d := by
  intro k hk
  rcases (show k = 0 ∨ k = 1 ∨ k = 2 ∨ k = 3 ∨ k = 4 ∨ k = 5 ∨ k = 6 ∨ k = 7 by omega) with rfl | rfl | rfl | rfl | rfl | rfl | rfl | rfl
  all_goals exact ⟨_, _, _, _, rfl, by decide, by decide, by decide, by decide, rfl⟩
theorem qrTo_succ (s : List UInt32) (k a b c d : Nat) (h : places[k]? = some (a, b, c, d)) : qrTo s (k + 1) = qrAt (qrTo s k) a b c d := by
  unfold qrTo
  obtain ⟨hk, he⟩ := List.getElem?_eq_some_iff.1 h
  rw [List.take_succ_eq_append_getElem hk, List.foldl_append, he]; rfl

theorem index_place : ∀ k : Nat, k < 8 → ∀ w, (Instr.index 129 (.agg placeCells.toArray) (.int .i64 (k : Int))).run Try.prog w = .ok (.agg (cut placeCells (4 * k) 4).toArray) w := by
  intro k hk w
  rcases (show k = 0 ∨ k = 1 ∨ k = 2 ∨ k = 3 ∨ k = 4 ∨ k = 5 ∨ k = 6 ∨ k = 7 by omega) with rfl | rfl | rfl | rfl | rfl | rfl | rfl | rfl
  all_goals kernel_rfl
theorem ws_one (s : List UInt32) : ∀ u ∈ ws s, u.oneCell' = true := by
  intro u hu
  obtain ⟨x, _, rfl⟩ := List.mem_map.1 hu
  rfl
theorem lay4 (L : List Value) (a b c d : Nat) (x y z u : Value) (ha : a < L.length) (hb : b < L.length) (hc : c < L.length) (hd : d < L.length) :
    lay (lay (lay (lay L a [x]) b [y]) c [z]) d [u] = (((L.set a x).set b y).set c z).set d u := by
  rw [lay_one L a x ha, lay_one _ b y (by simpa using hb), lay_one _ c z (by simpa using hc), lay_one _ d u (by simpa using hd)]
theorem info59 : (Try.prog.info? 59).map (·.size) = some 1 := by kernel_rfl
def noughts4 : List Value := List.replicate 4 (.int .i64 0)
def noughts16 : List Value := List.replicate 16 (.int .u32 0)
theorem ws_length (s : List UInt32) : (ws s).length = s.length := List.length_map ..
theorem ws_get (s : List UInt32) (k : Nat) (h : k < s.length) : (ws s)[k]? = some (.int .u32 ((s.getD k 0).toNat : Int)) := by
  simp [ws, wrd, List.getD, List.getElem?_eq_getElem h]
theorem ws_qrAt (s : List UInt32) (a b c d : Nat) : ws (qrAt s a b c d) = ((((ws s).set a (wrd (qr (s.getD a 0) (s.getD b 0) (s.getD c 0) (s.getD d 0)).1)).set b (wrd (qr (s.getD a 0) (s.getD b 0) (s.getD c 0) (s.getD d 0)).2.1)).set c (wrd (qr (s.getD a 0) (s.getD b 0) (s.getD c 0) (s.getD d 0)).2.2.1)).set d (wrd (qr (s.getD a 0) (s.getD b 0) (s.getD c 0) (s.getD d 0)).2.2.2) := by
  simp only [qrAt, ws, List.map_set]

set_option maxHeartbeats 1000000 in
set_option maxRecDepth 100000 in
theorem double_calls (s : List UInt32) (hs : s.length = 16) (w : World) : Calls Try.prog 107 #[.agg (ws s).toArray] w fun e w' => e = .returned (.agg (ws (dbl s)).toArray) ∧ Below w.heap.size w w' := by
  have HS := Lib.hid hs
  clear hs
  go_enter Try.func107, Try.ntmps107
  go_wp2_with fail
  have h0 : Blk ((w.alloc (.cells (ws s).toArray 126)).alloc (.cells noughts16.toArray 126)) w.heap.size 126 (ws s) := (Blk.new w 126 (ws s)).alloc _
  have h1 : Blk ((w.alloc (.cells (ws s).toArray 126)).alloc (.cells noughts16.toArray 126)) (w.heap.size + 1) 126 noughts16 := by
    have := Blk.new (w.alloc (.cells (ws s).toArray 126)) 126 noughts16
    rwa [World.size_alloc] at this
  have hb : Below w.heap.size w ((w.alloc (.cells (ws s).toArray 126)).alloc (.cells noughts16.toArray 126)) := ((Below.refl _ _).alloc (Nat.le_refl _) _).alloc (by simp) _
  refine (places_calls _).mono ?_
  rintro e w1 ⟨rfl, hb1⟩
  have h0 := h0.below hb1 (by simp only [World.size_alloc]; omega)
  have h1 := h1.below hb1 (by simp only [World.size_alloc]; omega)
  have hb := hb.trans (hb1.mono (by simp only [World.size_alloc]; omega))
  go_wp2
  go_loopw [6] (fun i wr => ∃ k : Nat, k ≤ 8 ∧ i = .int .i64 (k : Int) ∧ Blk wr w.heap.size 126 (ws (qrTo s k)) ∧ Blk wr (w.heap.size + 1) 126 noughts16 ∧ Below w.heap.size w wr) (fun i _ => 8 - (intOf i).toNat)
  case atStart => exact ⟨0, by omega, rfl, h0, h1, hb⟩
  case round =>
    obtain ⟨k, hk, rfl, hB0, hB1, hbel⟩ := hrel
    clear h0 h1 hb hb1
    have H0 := Lib.hid hB0
    have H1 := Lib.hid hB1
    have HB := Lib.hid hbel
    clear hB0 hB1 hbel
    by_cases hlt : k < 8
    · obtain ⟨a, b, c, d, hp, ha, hb, hc, hd, hrow⟩ := place_bound k hlt
      have HQ := Lib.hid (qrTo_succ s k a b c d hp)
      have HI := index_place k hlt
      rw [hrow] at HI
      clear hp hrow
      generalize hS : qrTo s k = S at *
      have HL := Lib.hid (show S.length = 16 by rw [← hS, qrTo_length]; exact HS.out)
      clear hS
      have HP := Lib.hid (Blk.new wr 128 noughts4)
      go_wp2_with (first
        | (refine wpList_put rfl 128 (.tmp 4) (.tmp 8) rfl rfl rfl HP.out (vs := row4 a b c d) rfl info128 (by simp [row4, noughts4]) (by simp [row4, Value.oneCell']) ?_; intro w2 hP2 hg2))
      replace hP2 : Blk w2 wr.heap.size 128 (row4 a b c d) := hP2
      have hg : wr.grownBy w2 (some wr.heap.size) := ⟨hg2.os, hg2.tape, hg2.output, Nat.le_trans (by simp) hg2.size, fun j hj hne => (hg2.block j (by simp; omega) hne).trans (Below.heap_alloc _ _ _ hj)⟩
      clear hg2
      have hS0 := H0.out.grown hg (by have := H0.out.lt; simp; omega)
      have hR0 := H1.out.grown hg (by have := H1.out.lt; simp; omega)
      have hbel := HB.out.grown hg HB.out.size (fun j hj => by cases hj; exact HB.out.size)
      have p0 := hP2.cellAt (i := 0) (v := .int .i64 (a : Int)) rfl
      have p1 := hP2.cellAt (i := 1) (v := .int .i64 (b : Int)) rfl
      have p2 := hP2.cellAt (i := 2) (v := .int .i64 (c : Int)) rfl
      have p3 := hP2.cellAt (i := 3) (v := .int .i64 (d : Int)) rfl
      have s0 := hS0.cellAt (ws_get S a (by rw [HL.out]; exact ha))
      have s1 := hS0.cellAt (ws_get S b (by rw [HL.out]; exact hb))
      have s2 := hS0.cellAt (ws_get S c (by rw [HL.out]; exact hc))
      have s3 := hS0.cellAt (ws_get S d (by rw [HL.out]; exact hd))
      have HS0 := Lib.hid hS0
      have HR0 := Lib.hid hR0
      have HP2 := Lib.hid hP2
      have Hbel := Lib.hid hbel
      have Hg := Lib.hid hg
      clear hS0 hR0 hP2 hbel hg
      have HW := ws_qrAt S a b c d
      obtain ⟨x0, hx0⟩ : ∃ x, x = S.getD a 0 := ⟨_, rfl⟩
      obtain ⟨x1, hx1⟩ : ∃ x, x = S.getD b 0 := ⟨_, rfl⟩
      obtain ⟨x2, hx2⟩ : ∃ x, x = S.getD c 0 := ⟨_, rfl⟩
      obtain ⟨x3, hx3⟩ : ∃ x, x = S.getD d 0 := ⟨_, rfl⟩
      rw [← hx0] at s0 HW
      rw [← hx1] at s1 HW
      rw [← hx2] at s2 HW
      rw [← hx3] at s3 HW
      have HR := round_calls x0 x1 x2 x3
      generalize qr x0 x1 x2 x3 = R at HW HR
      replace HW := Lib.hid HW
      replace HR := Lib.hid HR
      clear hx0 hx1 hx2 hx3
      have ia : (a : Int) < 16 := by omega
      have ib : (b : Int) < 16 := by omega
      have ic : (c : Int) < 16 := by omega
      have id_ : (d : Int) < 16 := by omega
      simp only [Act.put]
      refine wp_region_mix [(true, 0), (true, 1), (false, 2), (false, 3), (false, 4), (false, 5), (false, 6), (false, 7), (true, 8), (true, 9), (true, 10), (true, 11), (true, 12), (true, 13), (true, 14), (true, 15), (true, 16), (true, 17), (true, 18), (true, 19), (true, 20), (true, 21), (true, 22), (true, 23), (true, 24), (true, 25), (true, 26), (false, 27), (false, 28), (false, 29), (true, 30)] [31, 32, 33, 34, 35, 36, 37] (by kernel_rfl) (by kernel_rfl) (fun w' => Blk w' wr.heap.size 128 (row4 a b c d)) HP2.out ?_
      refine wpHead_early rfl (fun K hK => ?_)
      go_simp
      refine hK _ ?_
      clear hK K
      refine wpHead_early rfl (fun K hK => ?_)
      go_simp
      refine hK _ ?_
      clear hK K
      refine wpHead_late rfl (fun K hK => ⟨.pointer (some ⟨wr.heap.size, 1, none⟩), fun w' hC => ⟨rfl, ?_⟩, hK _ ?_⟩)
      · have q1 := hC.cellAt (i := 1) (v := .int .i64 (b : Int)) rfl
        have q2 := hC.cellAt (i := 2) (v := .int .i64 (c : Int)) rfl
        have q3 := hC.cellAt (i := 3) (v := .int .i64 (d : Int)) rfl
        clear hC hK K
        go_simp
      clear hK K
      refine wpHead_late rfl (fun K hK => ⟨.int .i64 (b : Int), fun w' hC => ⟨rfl, ?_⟩, hK _ ?_⟩)
      · have q1 := hC.cellAt (i := 1) (v := .int .i64 (b : Int)) rfl
        have q2 := hC.cellAt (i := 2) (v := .int .i64 (c : Int)) rfl
        have q3 := hC.cellAt (i := 3) (v := .int .i64 (d : Int)) rfl
        clear hC hK K
        go_simp
      clear hK K
      refine wpHead_late rfl (fun K hK => ⟨.pointer (some ⟨wr.heap.size, 2, none⟩), fun w' hC => ⟨rfl, ?_⟩, hK _ ?_⟩)
      · have q1 := hC.cellAt (i := 1) (v := .int .i64 (b : Int)) rfl
        have q2 := hC.cellAt (i := 2) (v := .int .i64 (c : Int)) rfl
        have q3 := hC.cellAt (i := 3) (v := .int .i64 (d : Int)) rfl
        clear hC hK K
        go_simp
      clear hK K
      refine wpHead_late rfl (fun K hK => ⟨.int .i64 (c : Int), fun w' hC => ⟨rfl, ?_⟩, hK _ ?_⟩)
      · have q1 := hC.cellAt (i := 1) (v := .int .i64 (b : Int)) rfl
        have q2 := hC.cellAt (i := 2) (v := .int .i64 (c : Int)) rfl
        have q3 := hC.cellAt (i := 3) (v := .int .i64 (d : Int)) rfl
        clear hC hK K
        go_simp
      clear hK K
      refine wpHead_late rfl (fun K hK => ⟨.pointer (some ⟨wr.heap.size, 3, none⟩), fun w' hC => ⟨rfl, ?_⟩, hK _ ?_⟩)
      · have q1 := hC.cellAt (i := 1) (v := .int .i64 (b : Int)) rfl
        have q2 := hC.cellAt (i := 2) (v := .int .i64 (c : Int)) rfl
        have q3 := hC.cellAt (i := 3) (v := .int .i64 (d : Int)) rfl
        clear hC hK K
        go_simp
      clear hK K
      refine wpHead_late rfl (fun K hK => ⟨.int .i64 (d : Int), fun w' hC => ⟨rfl, ?_⟩, hK _ ?_⟩)
      · have q1 := hC.cellAt (i := 1) (v := .int .i64 (b : Int)) rfl
        have q2 := hC.cellAt (i := 2) (v := .int .i64 (c : Int)) rfl
        have q3 := hC.cellAt (i := 3) (v := .int .i64 (d : Int)) rfl
        clear hC hK K
        go_simp
      clear hK K
      refine wpHead_early rfl (fun K hK => ?_)
      go_simp
      refine hK _ ?_
      clear hK K
      refine wpHead_early rfl (fun K hK => ?_)
      go_simp
      refine hK _ ?_
      clear hK K
      refine wpHead_early rfl (fun K hK => ?_)
      go_simp
      refine hK _ ?_
      clear hK K
      refine wpHead_early rfl (fun K hK => ?_)
      go_simp
      refine hK _ ?_
      clear hK K
      refine wpHead_early rfl (fun K hK => ?_)
      go_simp
      refine hK _ ?_
      clear hK K
      refine wpHead_early rfl (fun K hK => ?_)
      go_simp
      refine hK _ ?_
      clear hK K
      refine wpHead_early rfl (fun K hK => ?_)
      go_simp
      refine hK _ ?_
      clear hK K
      refine wpHead_early rfl (fun K hK => ?_)
      go_simp
      refine hK _ ?_
      clear hK K
      refine wpHead_early rfl (fun K hK => ?_)
      go_simp
      refine hK _ ?_
      clear hK K
      refine wpHead_early rfl (fun K hK => ?_)
      go_simp
      refine hK _ ?_
      clear hK K
      refine wpHead_early rfl (fun K hK => ?_)
      go_simp
      refine hK _ ?_
      clear hK K
      refine wpHead_early rfl (fun K hK => ?_)
      go_simp
      refine hK _ ?_
      clear hK K
      refine wpHead_early rfl (fun K hK => ?_)
      go_simp
      refine hK _ ?_
      clear hK K
      refine wpHead_early rfl (fun K hK => ?_)
      go_simp
      refine hK _ ?_
      clear hK K
      refine wpHead_early rfl (fun K hK => ?_)
      go_simp
      refine hK _ ?_
      clear hK K
      refine wpHead_early rfl (fun K hK => ?_)
      go_simp
      refine hK _ ?_
      clear hK K
      refine wpHead_early rfl (fun K hK => ?_)
      go_simp
      refine ⟨_, (HR.out _).mono (fun _ _ h => ⟨h.1, h.2.symm⟩), hK _ ?_⟩
      clear hK K
      refine wpHead_early rfl (fun K hK => ?_)
      go_simp
      refine hK _ ?_
      clear hK K
      refine wpHead_early rfl (fun K hK => ?_)
      go_simp
      refine hK _ ?_
      clear hK K
      refine wpHead_late rfl (fun K hK => ⟨wrd R.2.1, fun w' hC => ⟨rfl, ?_⟩, hK _ ?_⟩)
      · clear hC hK K
        go_simp
      clear hK K
      refine wpHead_late rfl (fun K hK => ⟨wrd R.2.2.1, fun w' hC => ⟨rfl, ?_⟩, hK _ ?_⟩)
      · clear hC hK K
        go_simp
      clear hK K
      refine wpHead_late rfl (fun K hK => ⟨wrd R.2.2.2, fun w' hC => ⟨rfl, ?_⟩, hK _ ?_⟩)
      · clear hC hK K
        go_simp
      clear hK K
      refine wpHead_early rfl (fun K hK => ?_)
      go_simp
      refine hK _ ?_
      clear hK K
      have HE0 := Lib.hid (show Blk w2.drew w.heap.size 126 (ws S) from HS0.out)
      have HF0 := Lib.hid (show Blk w2.drew wr.heap.size 128 (row4 a b c d) from HP2.out)
      have HG0 := Lib.hid (show Blk w2.drew (w.heap.size + 1) 126 noughts16 from HR0.out)
      have HBe0 := Lib.hid (show Below w.heap.size w w2.drew from Hbel.out.drew)
      have hlt0 : w.heap.size < wr.heap.size := Blk.lt H0.out
      have hne : ¬ wr.heap.size = w.heap.size := by omega
      have hln : (ws S).length = 16 := by rw [ws_length, HL.out]
      have HLn := Lib.hid hln
      clear hln s0 s1 s2 s3 p0 p1 p2 p3
      refine wpStores_put rfl rfl rfl 59 (.tmp 39) (.tmp 35) rfl rfl rfl HE0.out (vs := [wrd R.1]) rfl info59 (by rw [HLn.out]; simp; omega) (by simp [wrd, Value.oneCell']) ?_
      intro v0 hE hgv
      have HE1 := Lib.hid hE
      have HLn1 := Lib.hid ((lay_length (ws S) a [wrd R.1] (by rw [HLn.out]; simp; omega)).trans HLn.out)
      have HF1 := Lib.hid (HF0.out.grown hgv (by simp [hne]))
      have HG1 := Lib.hid (HG0.out.grown hgv (by simp))
      have HBe1 := Lib.hid (HBe0.out.grown hgv HBe0.out.size (fun j hj => by cases hj; omega))
      clear hE hgv
      refine ⟨HF1.out, ?_⟩
      refine wpStores_val (v := .pointer (some ⟨w.heap.size, b, none⟩)) rfl rfl (by go_simp) HF1.out ?_
      simp only [Act.put, List.setIfInBounds_toArray, List.set_cons_zero, List.set_cons_succ]
      refine wpStores_put rfl rfl rfl 59 (.tmp 40) (.tmp 36) rfl rfl rfl HE1.out (vs := [wrd R.2.1]) rfl info59 (by rw [HLn1.out]; simp; omega) (by simp [wrd, Value.oneCell']) ?_
      intro v1 hE hgv
      have HE2 := Lib.hid hE
      have HLn2 := Lib.hid ((lay_length (lay (ws S) a [wrd R.1]) b [wrd R.2.1] (by rw [HLn1.out]; simp; omega)).trans HLn1.out)
      have HF2 := Lib.hid (HF1.out.grown hgv (by simp [hne]))
      have HG2 := Lib.hid (HG1.out.grown hgv (by simp))
      have HBe2 := Lib.hid (HBe1.out.grown hgv HBe1.out.size (fun j hj => by cases hj; omega))
      clear hE hgv
      refine ⟨HF2.out, ?_⟩
      refine wpStores_val (v := .pointer (some ⟨w.heap.size, c, none⟩)) rfl rfl (by go_simp) HF2.out ?_
      simp only [Act.put, List.setIfInBounds_toArray, List.set_cons_zero, List.set_cons_succ]
      refine wpStores_put rfl rfl rfl 59 (.tmp 41) (.tmp 37) rfl rfl rfl HE2.out (vs := [wrd R.2.2.1]) rfl info59 (by rw [HLn2.out]; simp; omega) (by simp [wrd, Value.oneCell']) ?_
      intro v2 hE hgv
      have HE3 := Lib.hid hE
      have HLn3 := Lib.hid ((lay_length (lay (lay (ws S) a [wrd R.1]) b [wrd R.2.1]) c [wrd R.2.2.1] (by rw [HLn2.out]; simp; omega)).trans HLn2.out)
      have HF3 := Lib.hid (HF2.out.grown hgv (by simp [hne]))
      have HG3 := Lib.hid (HG2.out.grown hgv (by simp))
      have HBe3 := Lib.hid (HBe2.out.grown hgv HBe2.out.size (fun j hj => by cases hj; omega))
      clear hE hgv
      refine ⟨HF3.out, ?_⟩
      refine wpStores_val (v := .pointer (some ⟨w.heap.size, d, none⟩)) rfl rfl (by go_simp) HF3.out ?_
      simp only [Act.put, List.setIfInBounds_toArray, List.set_cons_zero, List.set_cons_succ]
      refine wpStores_put rfl rfl rfl 59 (.tmp 42) (.tmp 38) rfl rfl rfl HE3.out (vs := [wrd R.2.2.2]) rfl info59 (by rw [HLn3.out]; simp; omega) (by simp [wrd, Value.oneCell']) ?_
      intro v3 hE hgv
      have HE4 := Lib.hid hE
      have HLn4 := Lib.hid ((lay_length (lay (lay (lay (ws S) a [wrd R.1]) b [wrd R.2.1]) c [wrd R.2.2.1]) d [wrd R.2.2.2] (by rw [HLn3.out]; simp; omega)).trans HLn3.out)
      have HF4 := Lib.hid (HF3.out.grown hgv (by simp [hne]))
      have HG4 := Lib.hid (HG3.out.grown hgv (by simp))
      have HBe4 := Lib.hid (HBe3.out.grown hgv HBe3.out.size (fun j hj => by cases hj; omega))
      clear hE hgv
      refine ⟨HF4.out, ?_⟩
      unfold wpStores
      go_wp2
      go_roundw
      case rel => exact ⟨k + 1, by omega, by go_num, by rw [HQ.out, HW.out, ← lay4 _ _ _ _ _ _ _ _ _ (by rw [HLn.out]; exact ha) (by rw [HLn.out]; exact hb) (by rw [HLn.out]; exact hc) (by rw [HLn.out]; exact hd)]; exact HE4.out, HG4.out, HBe4.out⟩
      case measure => simp [intOf]; omega
    · obtain rfl : k = 8 := by omega
      have hl16 : (ws (qrTo s 8)).length = 16 := by rw [ws_length, qrTo_length, HS.out]
      have h1c := ws_one (qrTo s 8)
      change Hid (Blk wr w.heap.size 126 (ws (dbl s))) at H0
      change (ws (dbl s)).length = 16 at hl16
      change ∀ u ∈ ws (dbl s), u.oneCell' = true at h1c
      generalize hX : ws (dbl s) = X at *
      have HX := Lib.hid hX
      clear hX
      have HLn := Lib.hid hl16
      have HOne := Lib.hid h1c
      clear hl16 h1c
      go_wp2_with (first
        | (refine wpList_getAll rfl 126 (.tmp 1) rfl rfl H0.out Try.underlying126 rfl info126 HLn.out ?_)
        | (refine wpList_putAll rfl 126 (.tmp 2) (.tmp 44) rfl (vs := X) rfl rfl H1.out info126 HLn.out rfl HOne.out ?_; intro w2 hB3 hg2; have H3 := Lib.hid hB3; clear hB3))
      have hbel := HB.out.grown hg2 HB.out.size (fun j hj => by cases hj; omega)
      refine bodyPost_ret (results_blk (cs := X) rfl _ rfl H3.out Try.underlying126 rfl (by rw [HLn.out]; exact info126)) rfl ⟨by rw [HX.out], hbel⟩
end Go.Proofs.Ytbdnoiaglighhaa
