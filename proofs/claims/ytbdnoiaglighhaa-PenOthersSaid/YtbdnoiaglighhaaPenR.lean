/- The walk of package pen's Read. No statement is proved here. -/
import Derived.Test.YtbdnoiaglighhaaPen
namespace Go.Proofs.Ytbdnoiaglighhaa
set_option linter.unusedVariables false
set_option linter.unusedSimpArgs false
open Go.RowKit Go.Maps
section
variable {w0 w w' : World} {F F' : Nat → Prop} {db pb : Nat} {S S' : Dev} {key : List UInt8} {boot seq : Nat}
/-- What a pen's Read hands back. -/
def PenGot (F' : Nat → Prop) (w w' : World) (o : Option (List UInt8 × Nat × Nat)) (e : Ending) : Prop := match o with
  | some (t, _, _) => ∃ v, e = .returned (.tuple #[v, .bool true]) ∧ w'.ownsRow w.heap.size 5 1 v t.length (bs t) ∧ ∀ g, v.ownBlock = some g → ¬ F' g
  | none => e = .returned (.tuple #[.slice none 0 0, .bool false])
theorem Got.in_ {hs : Prop} {v : Value} {l : List UInt8} {n : Nat} (h : Got F' w w' hs v l n) (hn : n ≤ 60000) : ∃ A m c, v = .slice A m c ∧ l.length = m ∧ m ≤ c ∧ m ≤ 60000 ∧ Rd w' A (bs l) := by
  rcases h with ⟨_, rfl, rfl⟩ | ⟨_, g, rfl, hb, hl, hg, hF⟩
  · exact ⟨none, 0, 0, rfl, rfl, Nat.le_refl _, by omega, fun h => absurd h (by simp)⟩
  · exact ⟨_, n, n, rfl, hl, Nat.le_refl _, hn, hb.rdAll⟩
set_option maxHeartbeats 1000000 in
set_option maxRecDepth 100000 in
theorem pread_calls (h : Blk w pb 119 (penCells db key boot seq)) (hk : key.length = 32) (hD : DiskAt w db S F) (hpF : ¬ F pb) (hl : S.live) (htr : S.trace.length ≤ 1000000) (x : Int) :
    Calls Try.prog 56 #[.pointer (some ⟨pb, 0, none⟩), .int .i64 x] w fun e w' => ∃ F', Calls1 db (S.read x) F w w' F' ∧ PenGot F' w w' (openB key (S.block S.now x)) e := by
  obtain ⟨c0, c1, c2⟩ := pen_cells h hk
  have hsz := hD.ok.size
  have HD := Lib.hid hD
  have HB := Lib.hid h
  have HK := Lib.hid hk
  have HL := Lib.hid hl
  have HT := Lib.hid htr
  clear h hk hD hl htr
  go_enter Try.func56, Try.ntmps56
  go_wp2_with fail
  try simp only [Act.put]
  refine wp_region_mixR [(false, 0), (false, 1), (false, 2), (false, 3), (true, 4), (true, 5), (true, 6), (true, 7), (true, 8)] [9, 10] [11, 12, 13, 14, 15, 16, 17, 18, 19] (by kernel_rfl) (by kernel_rfl) (fun w' => Blk w' pb 119 (penCells db key boot seq)) HB.out ?_
  refine wpHead_late rfl (fun K hK => ⟨.pointer (some ⟨pb, 0, none⟩), fun w' hC => ⟨rfl, ?_⟩, hK _ ?_⟩)
  · clear hK K
    go_simp
  clear hK K
  refine wpHead_late rfl (fun K hK => ⟨.pointer (some ⟨pb, 0, none⟩), fun w' hC => ⟨rfl, ?_⟩, hK _ ?_⟩)
  · clear hK K
    go_simp
  clear hK K
  refine wpHead_late rfl (fun K hK => ⟨.pointer (some ⟨pb, 1, none⟩), fun w' hC => ⟨rfl, ?_⟩, hK _ ?_⟩)
  · clear hK K
    go_simp
  clear hK K
  refine wpHead_late rfl (fun K hK => ⟨.agg (bs key).toArray, fun w' hC => ⟨rfl, exec_getN 58 (.tmp 13) rfl rfl hC Try.underlying58 rfl info58 (by rw [pen_len _ _ _ _ HK.out]; decide) (pen_key _ _ _ _ HK.out)⟩, hK _ ?_⟩)
  clear hK K
  simp only [Act.put, List.getElem_toArray, List.getElem_cons_succ, List.getElem_cons_zero, List.setIfInBounds_toArray, List.set_cons_zero, List.set_cons_succ]
  iterate 5
    refine wpHead_early rfl (fun K hK => ?_)
    go_simp
    refine hK _ ?_
    clear hK K
  unfold wpHead
  refine wpStores_call (f := 27) rfl rfl (by exact exec_enter (xl := [.tmp 18, .tmp 19]) rfl rfl Try.func27 rfl rfl _) (read_calls (HD.out.same (.drew F w)) HL.out HT.out x) ?_
  rintro e w1 ⟨v1, F1, rfl, hgot, hC⟩
  have hgot : Got F1 w w1 (S.has x) v1 (S.block S.now x) S.size := hgot
  have hC : Calls1 db (S.read x) F w w1 F1 := ⟨hC.1, hC.2.1, hC.2.2.1, ⟨hC.2.2.2.os, hC.2.2.2.tape, hC.2.2.2.output, hC.2.2.2.size, hC.2.2.2.block⟩⟩
  obtain ⟨A1, m1, cc1, rfl, hlen1, hmc1, hm1, hrd1⟩ := hgot.in_ hsz
  have HB1 := Lib.hid (hC.blk HB.out hpF)
  refine ⟨_, rfl, HB1.out, ?_⟩
  simp only [Act.put, List.getElem_toArray, List.getElem_cons_succ, List.getElem_cons_zero, List.setIfInBounds_toArray, List.set_cons_zero, List.set_cons_succ]
  refine wpStores_call (f := 34) rfl rfl (by exact exec_enter (xl := [.tmp 14, .tmp 20]) rfl rfl Try.func34 rfl rfl _) (open_calls key HK.out (S.block S.now x) A1 m1 cc1 hlen1 hmc1 hm1 w1 hrd1) ?_
  intro e w2 hO
  have hlow : ∀ g, F1 g → g < w1.heap.size := hC.1.lies
  have hs1 : w.heap.size ≤ w1.heap.size := hC.2.2.2.size
  have HLOW := Lib.hid hlow
  have HC := Lib.hid hC
  have HLEN := Lib.hid hlen1
  clear hgot hC hlen1 hrd1 hlow
  rcases hO with ⟨t, b, q, v, ho, hb, hq, rfl, hown, hbel⟩ | ⟨ho, rfl, hbel⟩
  · refine ⟨_, rfl, HB1.out.below hbel HB1.out.lt, ?_⟩
    simp only [Act.put, List.getElem_toArray, List.getElem_cons_succ, List.getElem_cons_zero, List.setIfInBounds_toArray, List.set_cons_zero, List.set_cons_succ]
    have HO := Lib.hid ho
    have HOWN := Lib.hid hown
    have HC2 := Lib.hid (HC.out.trans (Calls1.below HC.out.1 hbel))
    clear ho hown hbel
    unfold wpStores wpRest
    simp only [List.map_cons, List.map_nil]
    iterate 9
      refine wpHead_early rfl (fun K hK => ?_)
      go_simp
      refine hK _ ?_
      clear hK K
    unfold wpHead
    go_wp2_with fail
    go_ret2
    refine ⟨F1, HC2.out, ?_⟩
    rw [HO.out]
    exact ⟨v, rfl, Joins.ownsRow_le HOWN.out hs1, fun g hg hF => by have := (HOWN.out.lt g hg).1; have := HLOW.out g hF; omega⟩
  · refine ⟨_, rfl, HB1.out.below hbel HB1.out.lt, ?_⟩
    simp only [Act.put, List.getElem_toArray, List.getElem_cons_succ, List.getElem_cons_zero, List.setIfInBounds_toArray, List.set_cons_zero, List.set_cons_succ]
    have HO := Lib.hid ho
    have HC2 := Lib.hid (HC.out.trans (Calls1.below HC.out.1 hbel))
    clear ho hbel
    unfold wpStores wpRest
    simp only [List.map_cons, List.map_nil]
    iterate 9
      refine wpHead_early rfl (fun K hK => ?_)
      go_simp
      refine hK _ ?_
      clear hK K
    unfold wpHead
    go_wp2_with fail
    go_ret2
    refine ⟨F1, HC2.out, ?_⟩
    rw [HO.out]
    rfl
end
end Go.Proofs.Ytbdnoiaglighhaa
