/- The walks of package pen. No statement is proved here. -/
import Derived.Test.YtbdnoiaglighhaaDevZ
import Derived.Test.YtbdnoiaglighhaaOpen
namespace Go.Proofs.Ytbdnoiaglighhaa
set_option linter.unusedVariables false
set_option linter.unusedSimpArgs false
open Go.RowKit Go.Maps

/-- A pen's cells. -/
def penCells (db : Nat) (key : List UInt8) (boot seq : Nat) : List Value := .pointer (some ⟨db, 0, none⟩) :: (bs key ++ [.int .u32 (boot : Int), .int .u64 (seq : Int)])
theorem list32 (m : List UInt8) (h : m.length = 32) : ∃ k0 k1 k2 k3 k4 k5 k6 k7 k8 k9 k10 k11 k12 k13 k14 k15 k16 k17 k18 k19 k20 k21 k22 k23 k24 k25 k26 k27 k28 k29 k30 k31, m = [k0, k1, k2, k3, k4, k5, k6, k7, k8, k9, k10, k11, k12, k13, k14, k15, k16, k17, k18, k19, k20, k21, k22, k23, k24, k25, k26, k27, k28, k29, k30, k31] := by
  match m, h with
  | [k0, k1, k2, k3, k4, k5, k6, k7, k8, k9, k10, k11, k12, k13, k14, k15, k16, k17, k18, k19, k20, k21, k22, k23, k24, k25, k26, k27, k28, k29, k30, k31], _ => exact ⟨k0, k1, k2, k3, k4, k5, k6, k7, k8, k9, k10, k11, k12, k13, k14, k15, k16, k17, k18, k19, k20, k21, k22, k23, k24, k25, k26, k27, k28, k29, k30, k31, rfl⟩
section
variable {w0 w w' : World} {F F' : Nat → Prop} {db pb : Nat} {S S' : Dev} {key : List UInt8} {boot seq : Nat}
theorem pen_cells (h : Blk w pb 119 (penCells db key boot seq)) (hk : key.length = 32) : w.cell? ⟨pb, 0, none⟩ = some (.pointer (some ⟨db, 0, none⟩)) ∧ w.cell? ⟨pb, 33, none⟩ = some (.int .u32 (boot : Int)) ∧ w.cell? ⟨pb, 34, none⟩ = some (.int .u64 (seq : Int)) := by
  have hl : (bs key).length = 32 := by rw [bs_length, hk]
  refine ⟨h.cellAt rfl, h.cellAt ?_, h.cellAt ?_⟩
  · show (bs key ++ _)[32]? = _
    rw [List.getElem?_append_right (by omega), hl]; rfl
  · show (bs key ++ _)[33]? = _
    rw [List.getElem?_append_right (by omega), hl]; rfl
set_option maxRecDepth 100000 in
theorem pseq_calls (h : Blk w pb 119 (penCells db key boot seq)) (hk : key.length = 32) : Calls Try.prog 58 #[.pointer (some ⟨pb, 0, none⟩)] w fun e w' => e = .returned (.int .u64 (seq : Int)) ∧ w' = w := by
  obtain ⟨c0, c1, c2⟩ := pen_cells h hk
  clear h
  go_enter Try.func58, Try.ntmps58
  go_wp2_with fail
  go_ret
  exact ⟨rfl, rfl⟩
set_option maxRecDepth 100000 in
theorem pflush_calls (h : Blk w pb 119 (penCells db key boot seq)) (hk : key.length = 32) (hD : DiskAt w db S F) (hl : S.live) (htr : S.trace.length ≤ 1000000) (hlo : S.loose.length ≤ 1000000) :
    Calls Try.prog 57 #[.pointer (some ⟨pb, 0, none⟩)] w fun e w' => e = .returned (.tuple #[]) ∧ ∃ F', Calls1 db S.flush F w w' F' := by
  obtain ⟨c0, c1, c2⟩ := pen_cells h hk
  have HD := Lib.hid hD
  have HL := Lib.hid hl
  have HT := Lib.hid htr
  have HO := Lib.hid hlo
  clear h hD hl htr hlo
  go_enter Try.func57, Try.ntmps57
  go_wp2_with fail
  refine (flush_calls HD.out HL.out HT.out HO.out).mono ?_
  rintro e w1 ⟨rfl, F1, hC⟩
  have HC := Lib.hid hC
  clear hC
  go_wp2_with fail
  go_end0
  exact ⟨rfl, F1, HC.out⟩
set_option maxRecDepth 100000 in
theorem pnew_calls (db : Nat) (key : List UInt8) (hk : key.length = 32) (boot : Nat) (hb : boot < 4294967296) (w : World) : Calls Try.prog 54 #[.pointer (some ⟨db, 0, none⟩), .agg (bs key).toArray, .int .u32 (boot : Int)] w fun e w' =>
    ∃ pb, e = .returned (.pointer (some ⟨pb, 0, none⟩)) ∧ Blk w' pb 119 (penCells db key boot 0) ∧ w.heap.size ≤ pb ∧ Below w.heap.size w w' := by
  obtain ⟨k0, k1, k2, k3, k4, k5, k6, k7, k8, k9, k10, k11, k12, k13, k14, k15, k16, k17, k18, k19, k20, k21, k22, k23, k24, k25, k26, k27, k28, k29, k30, k31, rfl⟩ := list32 key hk
  have E0 := Lib.hid (Blk.new w 58 (bs [k0, k1, k2, k3, k4, k5, k6, k7, k8, k9, k10, k11, k12, k13, k14, k15, k16, k17, k18, k19, k20, k21, k22, k23, k24, k25, k26, k27, k28, k29, k30, k31]))
  have hz := World.size_alloc w
  clear hk
  go_enter Try.func54, Try.ntmps54
  go_wp2_with (first
    | (refine wpList_getAll rfl 58 (.tmp 4) rfl rfl E0.out Try.underlying58 rfl info58 rfl ?_))
  go_ret
  refine ⟨_, rfl, by have h := Blk.new (w.alloc (.cells (bs [k0, k1, k2, k3, k4, k5, k6, k7, k8, k9, k10, k11, k12, k13, k14, k15, k16, k17, k18, k19, k20, k21, k22, k23, k24, k25, k26, k27, k28, k29, k30, k31]).toArray 58)) 119 (penCells db [k0, k1, k2, k3, k4, k5, k6, k7, k8, k9, k10, k11, k12, k13, k14, k15, k16, k17, k18, k19, k20, k21, k22, k23, k24, k25, k26, k27, k28, k29, k30, k31] boot 0); rw [World.size_alloc] at h; exact h, ?_, ((Below.refl _ _).alloc (Nat.le_refl _) _).alloc (by simp) _⟩
  simp
theorem exec_getN {P : Program} {w : World} {o : Oper} {a : Act} {g off : Nat} {t : TypeId} {cs : List Value} (ty : TypeId) (x : Operand) (ho : o.op = .load ty x) {d : TypeDesc} (hx : a.eval x = .pointer (some ⟨g, off, none⟩)) (hb : Blk w g t cs) (hu : P.underlying ty = some d)
    (hd : (match d with | .struct _ | .array _ _ => true | _ => false) = true) {n : Nat} (hi : (P.info? ty).map (·.size) = some n) (hfit : off + n ≤ cs.length) {vs : List Value} (hv : cut cs off n = vs) : (execOp a.eval o).run P w = .ok (.value (.agg vs.toArray)) w := by
  subst hv
  have hrun := run_loadVar_at (P := P) (off := off) hb hu hd hi hfit
  unfold execOp
  simp only [ho, hx, Instr.loadAt, Instr.sureAddr, Sem.run_bind, Sem.run_pure, Result.andThen_ok, hrun]
theorem pen_key (db : Nat) (key : List UInt8) (boot seq : Nat) (hk : key.length = 32) : cut (penCells db key boot seq) 1 32 = bs key := by
  have hl : (bs key).length = 32 := by rw [bs_length, hk]
  show List.take 32 (List.drop 1 (_ :: (bs key ++ _))) = _
  rw [List.drop_succ_cons, List.drop_zero, List.take_left' hl]
theorem pen_len (db : Nat) (key : List UInt8) (boot seq : Nat) (hk : key.length = 32) : (penCells db key boot seq).length = 35 := by
  simp [penCells, hk]
theorem pen_set (db : Nat) (key : List UInt8) (boot seq : Nat) (hk : key.length = 32) : (penCells db key boot seq).set 34 (.int .u64 ((seq : Int) + 1)) = penCells db key boot (seq + 1) := by
  have hl : (bs key).length = 32 := by rw [bs_length, hk]
  show _ :: (bs key ++ _).set 33 _ = _ :: _
  rw [List.set_append_right _ _ (by omega), hl]
  rfl
/-- What a pen's call does: the device's and the pen's blocks alone are turned. -/
def CallsP (pb db : Nat) (S' : Dev) (F : Nat → Prop) (w w' : World) (F' : Nat → Prop) : Prop := DiskAt w' db S' F' ∧ (∀ g, F g → F' g) ∧ (∀ g, F' g → F g ∨ w.heap.size ≤ g) ∧ But (fun g => F g ∨ g = pb) w w'
set_option maxHeartbeats 1000000 in
set_option maxRecDepth 100000 in
theorem pwrite_calls (h : Blk w pb 119 (penCells db key boot seq)) (hk : key.length = 32) (hb : boot < 4294967296) (hq : seq + 1 < 18446744073709551616) (hD : DiskAt w db S F) (hpF : ¬ F pb) (hl : S.live) (htr : S.trace.length ≤ 1000000) (hlo : S.loose.length ≤ 1000000)
    (x : Int) (A : Option Addr) (n c : Nat) (l : List UInt8) (hn : l.length = n) (hr : Rd w A (bs l)) :
    Calls Try.prog 55 #[.pointer (some ⟨pb, 0, none⟩), .int .i64 x, .slice A n c] w fun e w' =>
      (n + 22 ≤ S.size ∧ e = .returned (.bool true) ∧ Blk w' pb 119 (penCells db key boot (seq + 1)) ∧ ∃ F', CallsP pb db (S.write x (sealB key boot seq l S.size)) F w w' F') ∨
      (S.size < n + 22 ∧ e = .returned (.bool false) ∧ Below w.heap.size w w') := by
  obtain ⟨c0, c1, c2⟩ := pen_cells h hk
  have hsz := hD.ok.size
  have HD := Lib.hid hD
  have HB := Lib.hid h
  have HK := Lib.hid hk
  have HL := Lib.hid hl
  have HT := Lib.hid htr
  have HO := Lib.hid hlo
  have HN := Lib.hid hn
  have HR := Lib.hid hr
  clear h hk hD hl htr hlo hn hr
  go_enter Try.func55, Try.ntmps55
  go_wp2_with fail
  try simp only [Act.put]
  refine wp_region_mixR [(true, 0), (true, 1), (true, 2), (true, 3), (true, 4), (true, 5), (true, 6), (true, 7), (true, 8), (true, 9), (true, 10), (true, 11), (true, 12), (true, 13), (true, 14), (true, 15), (true, 16), (true, 17)] [18] [19, 20, 21, 22, 23] (by kernel_rfl) (by kernel_rfl) (fun _ => True) trivial ?_
  iterate 3
    refine wpHead_early rfl (fun K hK => ?_)
    go_simp
    refine hK _ ?_
    clear hK K
  refine wpHead_val rfl rfl (exec_getN 58 (.tmp 12) rfl rfl (show Blk w.drew pb 119 _ from HB.out) Try.underlying58 rfl info58 (by rw [pen_len _ _ _ _ HK.out]; decide) (pen_key _ _ _ _ HK.out)) ?_
  simp only [Act.put, List.getElem_toArray, List.getElem_cons_succ, List.getElem_cons_zero, List.setIfInBounds_toArray, List.set_cons_zero, List.set_cons_succ]
  iterate 13
    refine wpHead_early rfl (fun K hK => ?_)
    go_simp
    refine hK _ ?_
    clear hK K
  refine wpHead_call (f := 97) (v := .int .i64 (S.size : Int)) rfl rfl (fun W => by exact exec_enter (xl := [.tmp 26]) rfl rfl Try.func97 rfl rfl W) (dsize_calls (HD.out.same (.drew F w))) ?_
  simp only [Act.put, List.getElem_toArray, List.getElem_cons_succ, List.getElem_cons_zero, List.setIfInBounds_toArray, List.set_cons_zero, List.set_cons_succ]
  unfold wpHead
  refine wpStores_call (f := 33) rfl rfl (by exact exec_enter (xl := [.tmp 13, .tmp 17, .tmp 21, .tmp 22, .tmp 27]) rfl rfl Try.func33 rfl rfl _) (seal_calls key HK.out boot seq hb l A n c HN.out (S.size : Int) (by omega) w.drew HR.out) ?_
  intro e w1 hS
  rcases hS with ⟨s, v, hs, hfit, rfl, hown, hbel⟩ | ⟨hno, rfl, hbel⟩
  · obtain rfl : S.size = s := by omega
    obtain ⟨A1, cc1, rfl⟩ := own_slice hown
    refine ⟨_, rfl, trivial, ?_⟩
    simp only [Act.put, List.getElem_toArray, List.getElem_cons_succ, List.getElem_cons_zero, List.setIfInBounds_toArray, List.set_cons_zero, List.set_cons_succ]
    have hbel : Below w.heap.size w w1 := ⟨hbel.os, hbel.tape, hbel.output, hbel.size, hbel.block⟩
    have B1 := Lib.hid (HB.out.below hbel HB.out.lt)
    obtain ⟨c0, c1, c2⟩ := pen_cells B1.out HK.out
    have f2 := B1.out.frozen 34
    have D1 := Lib.hid (HD.out.same (.below HD.out.lies hbel))
    have HBEL := Lib.hid hbel
    have HOWN := Lib.hid hown
    have HFIT := Lib.hid hfit
    clear hbel hown hfit hs
    unfold wpStores wpRest
    simp only [List.map_cons, List.map_nil]
    iterate 5
      refine wpHead_early rfl (fun K hK => ?_)
      go_simp
      refine hK _ ?_
      clear hK K
    unfold wpHead
    go_wp2_with fail
    have hpl : pb < w.heap.size := HB.out.lt
    have hown := HOWN.out
    have hA1 : ∀ a, A1 = some a → w.heap.size ≤ a.block ∧ a.off = 0 := fun a ha => by
      rcases hown.2 with ⟨h1, _⟩ | ⟨g, cap, cur, hv, hg, _⟩
      · injection h1 with h1; subst h1; cases ha
      · injection hv with hv; subst hv; cases ha; exact ⟨hg, rfl⟩
    have hown2 : (w1.setCell ⟨pb, 34, none⟩ (.int .u64 ((seq : Int) + 1))).ownsRow w.heap.size 5 1 (.slice A1 S.size cc1) S.size (bs (sealB key boot seq l S.size)) := own_same hown (fun g hg => Below.heap_setCell w1 ⟨pb, 34, none⟩ _ g (by
      have := (hown.lt g hg).1
      show g ≠ pb
      have : w.heap.size ≤ g := this
      omega))
    have hb2 : Blk (w1.setCell ⟨pb, 34, none⟩ (.int .u64 ((seq : Int) + 1))) pb 119 (penCells db key boot (seq + 1)) := by
      have h := B1.out.set_ 34 (.int .u64 ((seq : Int) + 1))
      rwa [pen_set _ _ _ _ HK.out] at h
    have hd2 : DiskAt (w1.setCell ⟨pb, 34, none⟩ (.int .u64 ((seq : Int) + 1))) db S F := D1.out.same ⟨by simp, fun g hg => Below.heap_setCell w1 ⟨pb, 34, none⟩ _ g (fun e => hpF (by cases e; exact hg))⟩
    refine (write_calls hd2 HL.out HT.out HO.out x A1 S.size cc1 (sealB key boot seq l S.size) (sealB_length _ _ _ _ _ HFIT.out) (.of_own hown2) (fun a ha hF => by have := (hA1 a ha).1; have := HD.out.lies _ hF; omega)).mono ?_
    rintro e w3 ⟨rfl, F3, hC⟩
    have hb3 : Blk w3 pb 119 (penCells db key boot (seq + 1)) := hC.blk hb2 hpF
    have hs1 : w.heap.size ≤ w1.heap.size := HBEL.out.size
    have hcp : CallsP pb db (S.write x (sealB key boot seq l S.size)) F w w3 F3 := by
      refine ⟨hC.1, hC.2.1, fun g hg => (hC.2.2.1 g hg).imp id (fun h => by have h : (w1.setCell ⟨pb, 34, none⟩ (.int .u64 ((seq : Int) + 1))).heap.size ≤ g := h; simp at h; omega), ?_⟩
      refine (But.of_below (fun g => F g ∨ g = pb) HBEL.out).trans ((show But (fun g => F g ∨ g = pb) w1 (w1.setCell ⟨pb, 34, none⟩ (.int .u64 ((seq : Int) + 1))) from ⟨rfl, rfl, rfl, by simp, fun g hg hn => Below.heap_setCell w1 ⟨pb, 34, none⟩ _ g (fun e => hn (.inr e))⟩).trans hC.2.2.2 (fun g h => .inl (.inl h))) (fun g h => .inl h)
    have HB3 := Lib.hid hb3
    have HCP := Lib.hid hcp
    clear hb3 hcp hC hd2 hb2 hown2 hown hA1
    go_wp2_with fail
    go_ret
    exact .inl ⟨by rw [← HN.out]; exact HFIT.out, rfl, HB3.out, F3, HCP.out⟩
  · refine ⟨_, rfl, trivial, ?_⟩
    simp only [Act.put, List.getElem_toArray, List.getElem_cons_succ, List.getElem_cons_zero, List.setIfInBounds_toArray, List.set_cons_zero, List.set_cons_succ]
    have hbel : Below w.heap.size w w1 := ⟨hbel.os, hbel.tape, hbel.output, hbel.size, hbel.block⟩
    have HBEL := Lib.hid hbel
    have HNO := Lib.hid hno
    clear hbel hno
    unfold wpStores wpRest
    simp only [List.map_cons, List.map_nil]
    iterate 5
      refine wpHead_early rfl (fun K hK => ?_)
      go_simp
      refine hK _ ?_
      clear hK K
    unfold wpHead
    go_wp2_with fail
    go_ret
    exact .inr ⟨by have := HNO.out; rw [HN.out] at this; omega, rfl, HBEL.out⟩
end
end Go.Proofs.Ytbdnoiaglighhaa
