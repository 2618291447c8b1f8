/- The walk of dumbwaiterlaw6.awake. No statement is proved here. -/
import Derived.Test.YtbdnoiaglighhaaDevZ
namespace Go.Proofs.Ytbdnoiaglighhaa
set_option linter.unusedVariables false
set_option linter.unusedSimpArgs false
open Go.RowKit Go.Maps

def b0 : Dev := Dev.fresh 3 2
def b1 : Dev := b0.write 1 [7, 8, 9]
def b2 : Dev := b1.read 1
def b3 : Dev := b2.write 2 [1]
def b4 : Dev := b3.cut 0
def b5 : Dev := b4.dead
def b6 : Dev := b5.crash [2, 1]
def b7 : Dev := b6.read 1
instance (S : Dev) : Decidable S.live := inferInstanceAs (Decidable (_ ∧ _))
theorem b_live : b0.live ∧ b1.live ∧ b2.live ∧ ¬ b4.live ∧ b6.live := by decide
theorem b_read : b1.block b1.now 1 = [7, 8] ∧ b6.block b6.now 1 = [162, 173] ∧ b7.block b7.stable 2 = [0, 0] ∧ b1.has 1 ∧ b6.has 1 ∧ b7.has 2 := by decide
theorem b_trace : b7.trace = [⟨2, 1, [7, 8, 0, 0, 0, 0, 0, 0, 0, 0, 0, 0], some [7, 8]⟩, ⟨1, 1, [7, 8, 0, 0, 0, 0, 0, 0, 0, 0, 0, 0], none⟩, ⟨2, 2, [1, 0, 0, 0, 0, 0, 0, 0, 0, 0, 0, 0], some [1, 0]⟩, ⟨4, 0, [0, 0, 0, 0, 0, 0, 0, 0, 0, 0, 0, 0], none⟩, ⟨1, 1, [162, 173, 0, 0, 0, 0, 0, 0, 0, 0, 0, 0], none⟩] := rfl
theorem b_bodies : b7.Bodies := by
  unfold Dev.Bodies
  rw [b_trace]
  intro e he l hl
  simp only [List.mem_cons, List.mem_nil_iff, or_false] at he
  rcases he with rfl | rfl | rfl | rfl | rfl <;> simp at hl <;> subst hl <;> simp
theorem info42 : (Try.prog.info? 42).map (·.size) = some 1 := by kernel_rfl
theorem callF72 (p : Value) (w : World) : (callFunc 72 #[p]).run Try.prog w = .ok (.enter 72 #[p]) w := by kernel_rfl
theorem callF73 (w : World) : (callFunc 73 #[]).run Try.prog w = .ok (.enter 73 #[]) w := by kernel_rfl
set_option maxHeartbeats 1000000 in
set_option maxRecDepth 100000 in
theorem fall_calls (w : World) : Calls Try.prog 73 #[] w fun e w' => e = .returned (.tuple #[]) ∧ w' = w := by
  go_enter Try.func73, Try.ntmps73
  go_wp2
  go_end0
  exact ⟨rfl, rfl⟩
set_option maxHeartbeats 1000000 in
set_option maxRecDepth 100000 in
theorem awake1_calls {w : World} {F : Nat → Prop} {c db : Nat} {S : Dev} (hc : Blk w c 42 [.pointer (some ⟨db, 0, none⟩)]) (hD : DiskAt w db S F) (hl : ¬ S.live) : Calls Try.prog 72 #[.pointer (some ⟨c, 0, none⟩)] w fun e w' => e = .panicked [gone] ∧ Calls1 db S.dead F w w' F := by
  have c0 := hc.cellAt (i := 0) rfl
  have HD := Lib.hid hD
  clear hc hD
  go_enter Try.func72, Try.ntmps72
  go_wp2_with fail
  refine (flush_gone HD.out hl).mono ?_
  rintro e w1 ⟨rfl, hC⟩
  go_wp2_with fail
  exact ⟨rfl, rfl, hC⟩
set_option maxHeartbeats 1000000 in
set_option maxRecDepth 100000 in
theorem awake6_calls (w : World) : Calls Try.prog 25 #[] w fun e w' => e = .returned (.bool true) ∧ Below w.heap.size w w' := by
  have hm := hmf
  go_enter Try.func25, Try.ntmps25
  go_wp2_with fail
  refine (new_calls 3 2 (by decide) (by decide) (by decide) w).mono ?_
  rintro e w1 ⟨db, rfl, F0, hD0, hlow0, hb1⟩
  have ON0 := Lib.hid (On.new (Below.refl _ w) hD0 hlow0 hb1)
  have OW := Lib.hid (Own.new ON0.out 42 [.pointer none])
  have ON1 := Lib.hid (ON0.out.alloc (.cells #[.pointer none] 42))
  clear hD0 hlow0 hb1
  go_wp2_with (first
    | (refine wpList_put rfl 42 (.tmp 1) (.tmp 6) rfl rfl rfl OW.out.1 (vs := [.pointer (some ⟨db, 0, none⟩)]) rfl info42 (by simp) (by simp [Value.oneCell']) ?_
       intro w2 hb2 hg2
       have ON2 := Lib.hid (ON1.out.grown hg2 OW.out.2.1 OW.out.2.2)
       have OW2 := Lib.hid (show Own w w2 F0 w1.heap.size 42 [.pointer (some ⟨db, 0, none⟩)] from ⟨hb2, OW.out.2⟩)
       have c0 := OW2.out.1.cellAt (i := 0) rfl
       clear hb2 hg2))
  have A2 := Lib.hid (Own.new ON2.out 5 (bs [7, 8, 9]))
  refine (write_calls (S := b0) (ON2.out.alloc _).disk b_live.1 (by decide) (by decide) 1 _ 3 3 [7, 8, 9] rfl A2.out.1.rdAll (fun a h => by cases h; exact A2.out.2.1)).mono ?_
  rintro e w3 ⟨rfl, F3, hC⟩
  have ON3 := Lib.hid (show On w w3 db b1 F3 from (ON2.out.alloc _).call hC)
  have OW3 := Lib.hid ((OW2.out.alloc _).call hC)
  have c0 := OW3.out.1.cellAt (i := 0) rfl
  clear hC
  go_wp2_with fail
  refine (read_calls (S := b1) ON3.out.disk b_live.2.1 (by decide) 1).mono ?_
  rintro e w4 ⟨v4, F4, rfl, hgot, hC⟩
  obtain ⟨g4, rfl, hA4, -, hg4⟩ := hgot.yes (n' := 2) (l' := [7, 8]) b_read.2.2.2.1 ON3.out.below rfl b_read.1
  have ON4 := Lib.hid (show On w w4 db b2 F4 from ON3.out.call hC)
  have OW4 := Lib.hid (OW3.out.call hC)
  have A4 := Lib.hid hA4
  have c0 := OW4.out.1.cellAt (i := 0) rfl
  clear hC hA4 hgot
  go_wp2_with fail
  have A5 := Lib.hid (Own.new ON4.out 5 (bs [1]))
  refine (write_calls (S := b2) (ON4.out.alloc _).disk b_live.2.2.1 (by decide) (by decide) 2 _ 1 1 [1] rfl A5.out.1.rdAll (fun a h => by cases h; exact A5.out.2.1)).mono ?_
  rintro e w5 ⟨rfl, F5, hC⟩
  have ON5 := Lib.hid (show On w w5 db b3 F5 from (ON4.out.alloc _).call hC)
  have OW5 := Lib.hid ((OW4.out.alloc _).call hC)
  have P5 := Lib.hid ((A4.out.alloc (.cells #[.int .u8 1] 5)).call hC)
  have c0 := OW5.out.1.cellAt (i := 0) rfl
  clear hC
  go_wp2_with fail
  refine (cut_calls (S := b3) ON5.out.disk 0 (by decide)).mono ?_
  rintro e w6 ⟨rfl, hC⟩
  have ON6 := Lib.hid (show On w w6 db b4 F5 from ON5.out.call hC)
  have OW6 := Lib.hid (OW5.out.call hC)
  have P6 := Lib.hid (P5.out.call hC)
  have c0 := OW6.out.1.cellAt (i := 0) rfl
  clear hC
  go_wp2_with fail
  have B6 := Lib.hid (Own.new ON6.out 4 [.bool false])
  have hdb6 : DiskAt (w6.alloc (.cells #[.bool false] 4)) db b4 F5 := (ON6.out.alloc _).disk
  refine (try_calls (g := 72) (cap := #[.pointer (some ⟨w1.heap.size, 0, none⟩)]) (P1 := fun _ => False) (P2 := fun w' => Calls1 db b5 F5 (w6.alloc (.cells #[.bool false] 4)) w' F5) (callF72 _) ((awake1_calls (OW6.out.alloc _).1 hdb6 b_live.2.2.2.1).mono ?_)).mono ?_
  · rintro e w' ⟨rfl, hC⟩
    exact ⟨.inr ⟨rfl, hC⟩, (B6.out.call hC).1⟩
  rintro e w7 ⟨wa, wb, hga, hgb, h7⟩
  rcases h7 with ⟨rfl, hf⟩ | ⟨rfl, hC⟩
  · exact hf.elim
  have hba : Below wa.heap.size wa wb := (Below.refl _ _).grown hga (Nat.le_refl _) (fun j e => by cases e)
  have BA := ((B6.out.call hC).under hba)
  have ON7 := Lib.hid (show On w w7 db b5 F5 from (((ON6.out.alloc _).call hC).under hba).grown hgb BA.2.1 BA.2.2)
  have OW7 := Lib.hid ((((OW6.out.alloc _).call hC).under hba).grown hgb (by have := OW6.out.1.lt; omega))
  have P7 := Lib.hid ((((P6.out.alloc _).call hC).under hba).grown hgb (by have := P6.out.1.lt; omega))
  have c0 := OW7.out.1.cellAt (i := 0) rfl
  clear hC hba BA hga hgb hdb6
  go_wp2_with fail
  have A8 := Lib.hid (Own.new ON7.out 3 (ints [2, 1]))
  refine (crash_calls (S := b5) (ON7.out.alloc _).disk (by decide) (by decide) _ 2 2 [2, 1] rfl (by decide) A8.out.1.rdAll (fun a h => by cases h; exact A8.out.2.1)).mono ?_
  rintro e w8 ⟨rfl, F8, hC⟩
  have ON8 := Lib.hid (show On w w8 db b6 F8 from (ON7.out.alloc _).call hC)
  have OW8 := Lib.hid ((OW7.out.alloc _).call hC)
  have P8 := Lib.hid ((P7.out.alloc _).call hC)
  have c0 := OW8.out.1.cellAt (i := 0) rfl
  clear hC
  go_wp2_with fail
  refine (read_calls (S := b6) ON8.out.disk b_live.2.2.2.2 (by decide) 1).mono ?_
  rintro e w9 ⟨v9, F9, rfl, hgot, hC⟩
  obtain ⟨g9, rfl, hA9, -, hg9⟩ := hgot.yes (n' := 2) (l' := [162, 173]) b_read.2.2.2.2.1 ON8.out.below rfl b_read.2.1
  have ON9 := Lib.hid (show On w w9 db b7 F9 from ON8.out.call hC)
  have OW9 := Lib.hid (OW8.out.call hC)
  have P9 := Lib.hid (P8.out.call hC)
  have Q9 := Lib.hid hA9
  have c0 := OW9.out.1.cellAt (i := 0) rfl
  clear hC hA9 hgot
  go_wp2_with fail
  refine (trace_calls (S := b7) ON9.out.disk (by decide) b_bodies).mono ?_
  rintro e wt ⟨vt, rfl, htr, hbt⟩
  have TR := Lib.hid (Shown.of htr ON9.out.disk.lies ON9.out.below)
  have ONt := Lib.hid (ON9.out.under hbt)
  have OWt := Lib.hid (OW9.out.under hbt)
  have Pt := Lib.hid (P9.out.under hbt)
  have Qt := Lib.hid (Q9.out.under hbt)
  have c0 := OWt.out.1.cellAt (i := 0) rfl
  have s1 : (convert 41 9 (.slice (some ⟨g4, 0, none⟩) 2 2)).run Try.prog wt = .ok (.string ⟨#[7, 8]⟩) wt := run_bytes_string (l := [7, 8]) Try.underlying41 Try.underlying5 Try.underlying9 Pt.out.1.rdAll 2
  have s2 : (convert 41 9 (.slice (some ⟨g9, 0, none⟩) 2 2)).run Try.prog wt = .ok (.string ⟨#[162, 173]⟩) wt := run_bytes_string (l := [162, 173]) Try.underlying41 Try.underlying5 Try.underlying9 Qt.out.1.rdAll 2
  clear htr hbt
  go_wp2_with fail
  refine (stable_calls (S := b7) ONt.out.disk 2).mono ?_
  rintro e ws ⟨vs, rfl, hgot, hC⟩
  obtain ⟨gs, rfl, hAs, -, hgs⟩ := hgot.yes (n' := 2) (l' := [0, 0]) b_read.2.2.2.2.2 ONt.out.below rfl b_read.2.2.1
  have s3 : (convert 41 9 (.slice (some ⟨gs, 0, none⟩) 2 2)).run Try.prog ws = .ok (.string ⟨#[0, 0]⟩) ws := run_bytes_string (l := [0, 0]) Try.underlying41 Try.underlying5 Try.underlying9 hAs.1.rdAll 2
  have ONs := Lib.hid (ONt.out.call hC)
  have TRs := Lib.hid (TR.out.call hC)
  clear hC hgot hAs
  go_wp2_with fail
  have Bs := Lib.hid (Own.new ONs.out 4 [.bool false])
  refine (try_calls (g := 73) (cap := #[]) (P1 := fun w' => w' = ws.alloc (.cells #[.bool false] 4)) (P2 := fun _ => False) callF73 ((fall_calls _).mono ?_)).mono ?_
  · rintro e w' ⟨rfl, rfl⟩
    exact ⟨.inl ⟨rfl, rfl⟩, Bs.out.1⟩
  rintro e wv ⟨wa, wb, hga, hgb, h7⟩
  rcases h7 with ⟨rfl, rfl⟩ | ⟨rfl, hf⟩
  rotate_left
  · exact hf.elim
  have hbv : Below ws.heap.size ws wv := (((Below.refl _ _).alloc (Nat.le_refl _) _).grown hga (by simp) (fun j e => by cases e)).grown hgb (by have := hga.size; simp at this; omega) (fun j e => by cases e; exact Nat.le_refl _)
  have TRv := TRs.out.under hbv
  have hend := ONs.out.below.trans (hbv.mono ONs.out.below.size)
  obtain ⟨gt, ct, rfl, -, -, -, -, hev3, -, -⟩ := TRv.at_ (i := 3) (e := ⟨4, 0, [0, 0, 0, 0, 0, 0, 0, 0, 0, 0, 0, 0], none⟩) (by rw [b_trace]; rfl)
  obtain ⟨gt2, ct2, heq, -, -, -, -, -, -, bv, hbv0, hbody⟩ := TRv.at_ (i := 0) (e := ⟨2, 1, [7, 8, 0, 0, 0, 0, 0, 0, 0, 0, 0, 0], some [7, 8]⟩) (by rw [b_trace]; rfl)
  injection heq with heq _ _
  have heq := Option.some.inj heq
  injection heq with heq _ _
  subst heq
  obtain ⟨k, cap, rfl, hcap, hrd, -, -, -, -, -⟩ := hbody
  have k3 := hev3.kind
  have k0 : wv.cell? ⟨gt, 14, none⟩ = some _ := hbv0
  obtain ⟨bb, oo, hA, kb0⟩ := hrd.cell (k := 1) (by decide)
  injection hA with hA
  injection hA with h1 h2
  subst h1 h2
  have kb : wv.cell? ⟨k, 1, none⟩ = some (.int .u8 8) := kb0
  have k3 : wv.cell? ⟨gt, 45, none⟩ = some (.int .i64 4) := k3
  have k0 : wv.cell? ⟨gt, 14, none⟩ = some (.slice (some ⟨k, 0, none⟩) 2 cap) := k0
  have hl5 : b7.trace.length = 5 := rfl
  rw [hl5]
  have HE := Lib.hid hend
  clear kb0 hev3 hbv0 TRv hrd hend hbv hga hgb hl5
  go_wp2_with fail
  go_ret
  exact ⟨rfl, HE.out⟩
end Go.Proofs.Ytbdnoiaglighhaa
