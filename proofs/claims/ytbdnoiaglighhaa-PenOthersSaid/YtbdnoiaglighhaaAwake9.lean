/- The walk of dumbwaiterlaw9.awake. No statement is proved here. -/
import Derived.Test.YtbdnoiaglighhaaPenR
import Derived.Test.YtbdnoiaglighhaaAwake7
namespace Go.Proofs.Ytbdnoiaglighhaa
set_option linter.unusedVariables false
set_option linter.unusedSimpArgs false
set_option linter.constructorNameAsVariable false
open Go.RowKit Go.Maps
section
variable {w0 w w' : World} {F F' : Nat → Prop} {db pb g : Nat} {S S' : Dev} {key : List UInt8} {boot seq : Nat} {t : TypeId} {cs : List Value}
theorem On.callP (h : On w0 w db S F) (k : CallsP pb db S' F w w' F') (h0 : w0.heap.size ≤ pb) : On w0 w' db S' F' :=
  ⟨k.1, fun g hg => (k.2.2.1 g hg).elim (h.low g) (fun hs => Nat.le_trans h.below.size hs), h.below.trans (k.2.2.2.below (fun g hg => hg.elim (h.low g) (fun e => e ▸ h0)) h.below.size)⟩
theorem Own.callP (h : Own w0 w F g t cs) (k : CallsP pb db S' F w w' F') (hne : g ≠ pb) : Own w0 w' F' g t cs :=
  ⟨(k.2.2.2.block g h.1.lt (fun h' => h'.elim h.2.1 hne)).trans h.1, fun hF => (k.2.2.1 g hF).elim h.2.1 (fun hs => by have := h.1.lt; omega), h.2.2⟩
theorem Own.pen {cs' : List Value} (h : Own w0 w F pb t cs) (k : CallsP pb db S' F w w' F') (hb : Blk w' pb t cs') : Own w0 w' F' pb t cs' :=
  ⟨hb, fun hF => (k.2.2.1 pb hF).elim h.2.1 (fun hs => by have := h.1.lt; omega), h.2.2⟩
theorem write_block (S : Dev) (x : Int) (b : List UInt8) (hx : S.has x) (hb : b.length = S.size) : (S.write x b).block (S.write x b).now x = b := by
  have he : (S.write x b).now = upd S.now x b := by unfold Dev.write; simp only; rw [if_pos hx, fit_same _ _ hb]
  have hh : (S.write x b).has x := by unfold Dev.write; simp only; rw [if_pos hx]; exact hx
  rw [block_in _ _ hh, he]
  simp [upd]
theorem write_size (S : Dev) (x : Int) (b : List UInt8) : (S.write x b).size = S.size ∧ (S.write x b).blocks = S.blocks ∧ (S.write x b).off = S.off ∧ (S.write x b).stable = S.stable ∧ (S.write x b).trace.length = S.trace.length + 1 ∧ (S.write x b).loose.length ≤ S.loose.length + 1 := by
  unfold Dev.write Dev.note Dev.tick
  simp only
  split <;> simp
theorem after_of {S : Dev} (h : S.after = -1) : S.tick = S := by unfold Dev.tick; rw [h]; cases S; subst h; rfl
theorem write_after (S : Dev) (x : Int) (b : List UInt8) (h : S.after = -1) : (S.write x b).after = -1 := by
  unfold Dev.write; rw [after_of h]; simp only; split <;> exact h
end
def key1 : List UInt8 := 1 :: List.replicate 31 0
def seal1 : List UInt8 := sealB key1 5 0 [97, 98] 40
theorem seal1_length : seal1.length = 40 := sealB_length _ _ _ _ _ (by decide)
def p0 : Dev := Dev.fresh 3 40
def p1 : Dev := p0.write 1 seal1
def p2 : Dev := p1.read 1
theorem p1_block : p1.block p1.now 1 = seal1 := write_block p0 1 seal1 (by decide) seal1_length
theorem p2_block : p2.block p2.now 1 = seal1 := p1_block
theorem p1_live : p1.live := ⟨(write_size p0 1 seal1).2.2.1, by rw [show p1.after = -1 from write_after p0 1 seal1 rfl]; decide⟩
theorem p2_live : p2.live := ⟨p1_live.1, by
  have h : p1.after = -1 := write_after p0 1 seal1 rfl
  show p1.tick.after ≠ 0
  rw [after_of h, h]; decide⟩
theorem p1_trace : p1.trace.length = 1 := (write_size p0 1 seal1).2.2.2.2.1
theorem p2_trace : p2.trace.length = 2 := by
  show (p1.tick.trace ++ [_]).length = 2
  rw [List.length_append]
  show p1.trace.length + 1 = 2
  rw [p1_trace]
theorem open_seal1 : openB key1 seal1 = some ([97, 98], 5, 0) := open_seal key1 5 0 [97, 98] 40 (by decide) (by decide) (by decide) (by decide)
set_option maxHeartbeats 1000000 in
set_option maxRecDepth 100000 in
theorem awake9_calls (w : World) : Calls Try.prog 53 #[] w fun e w' => e = .returned (.bool true) ∧ Below w.heap.size w w' := by
  go_enter Try.func53, Try.ntmps53
  go_wp2_with fail
  refine (new_calls 3 40 (by decide) (by decide) (by decide) w).mono ?_
  rintro e w1 ⟨db, rfl, F0, hD0, hlow0, hb1⟩
  have ON1 := Lib.hid (show On w w1 db p0 F0 from On.new (Below.refl _ w) hD0 hlow0 hb1)
  clear hD0 hlow0 hb1
  go_wp2_with fail
  refine (show Calls Try.prog 54 _ w1 _ from pnew_calls db key1 rfl 5 (by decide) w1).mono ?_
  rintro e w2 ⟨pb, rfl, hpb, hpl, hb2⟩
  have ON2 := Lib.hid (ON1.out.under hb2)
  have PB2 := Lib.hid (show Own w w2 F0 pb 119 (penCells db key1 5 0) from ⟨hpb, fun hF => by have := ON1.out.disk.lies _ hF; omega, Nat.le_trans ON1.out.below.size hpl⟩)
  clear hpb hpl hb2
  go_wp2_with fail
  rw [Lib.run_convert_bytes_const w2 41 5 _ _ _ Try.underlying41 Try.underlying5]
  have hba : Below w2.heap.size w2 (w2.alloc (.cells #[.int .u8 97, .int .u8 98] 5 (2, 3))) := (Below.refl _ _).alloc (Nat.le_refl _) _
  have ON3 := Lib.hid (ON2.out.under hba)
  have PB3 := Lib.hid (PB2.out.under hba)
  have FR := Lib.hid (show Rd (w2.alloc (.cells #[.int .u8 97, .int .u8 98] 5 (2, 3))) (some ⟨w2.heap.size, 0, none⟩) (bs [97, 98]) from fun _ => ⟨_, 0, rfl, _, _, _, heap_alloc_new w2 _, fun i hi => by
    rw [Nat.zero_add]
    match i, hi with
    | 0, _ => rfl
    | 1, _ => rfl
    | i + 2, hi => exact absurd hi (by simp)⟩)
  clear hba
  go_wp2_with fail
  refine (pwrite_calls (S := p0) PB3.out.1 rfl (by decide) (by decide) ON3.out.disk PB3.out.2.1 ⟨rfl, by show (-1 : Int) ≠ 0; decide⟩ (by decide) (by decide) 1 _ 2 2 [97, 98] rfl FR.out).mono ?_
  rintro e w4 (⟨_, rfl, hpb, F4, hC⟩ | ⟨hno, _⟩)
  rotate_left
  · exact absurd hno (by decide)
  have ON4 := Lib.hid (show On w w4 db p1 F4 from ON3.out.callP hC PB3.out.2.2)
  have PB4 := Lib.hid (show Own w w4 F4 pb 119 (penCells db key1 5 1) from PB3.out.pen hC hpb)
  have mk := make19
  clear hC hpb FR
  go_wp2_with fail
  have A5 := Lib.hid (Own.new ON4.out 5 (bs (List.replicate 19 0)))
  refine (pwrite_calls (S := p1) (PB4.out.alloc (.cells (bs (List.replicate 19 0)).toArray 5)).1 rfl (by decide) (by decide) (ON4.out.alloc _).disk PB4.out.2.1 p1_live (by rw [p1_trace]; decide) (by have := (write_size p0 1 seal1).2.2.2.2.2; exact Nat.le_trans this (by decide)) 1 _ 19 19 (List.replicate 19 0) rfl A5.out.1.rdAll).mono ?_
  rintro e w5 (⟨hyes, _⟩ | ⟨_, rfl, hb5⟩)
  · exact absurd hyes (by rw [show p1.size = 40 from (write_size p0 1 seal1).1]; decide)
  have ON5 := Lib.hid ((ON4.out.alloc (.cells (bs (List.replicate 19 0)).toArray 5)).under hb5)
  have PB5 := Lib.hid ((PB4.out.alloc (.cells (bs (List.replicate 19 0)).toArray 5)).under hb5)
  clear hb5
  go_wp2_with fail
  refine (pread_calls (S := p1) PB5.out.1 rfl ON5.out.disk PB5.out.2.1 p1_live (by rw [p1_trace]; decide) 1).mono ?_
  rintro e w6 ⟨F6, hC, hgot⟩
  rw [p1_block, open_seal1] at hgot
  obtain ⟨v6, rfl, hown6, hF6⟩ := hgot
  obtain ⟨A6, c6, rfl⟩ := own_slice hown6
  obtain ⟨g6, rfl, hc6, _, _⟩ := own_at hown6 (by decide)
  have ON6 := Lib.hid (show On w w6 db p2 F6 from ON5.out.call hC)
  have PB6 := Lib.hid (PB5.out.call hC)
  have R6 := Lib.hid (show Rd w6 (some ⟨g6, 0, none⟩) (bs [97, 98]) from .of_own hown6)
  have HF6 := Lib.hid (hF6 g6 rfl)
  clear hC hown6 hF6
  go_wp2_with fail
  refine (read_calls (S := p2) ON6.out.disk p2_live (by rw [p2_trace]; decide) 1).mono ?_
  rintro e w7 ⟨v7, F7, rfl, hgot, hC⟩
  obtain ⟨g7, rfl, hA7, -, -⟩ := hgot.yes (n' := 40) (l' := seal1) (by have h := (write_size p0 1 seal1).2.1; exact ⟨by decide, by show (1 : Int) < (p1.blocks : Int); rw [show p1.blocks = 3 from h]; decide⟩) ON6.out.below (show p1.size = 40 from (write_size p0 1 seal1).1) p2_block
  have ON7 := Lib.hid (show On w w7 db (p2.read 1) F7 from ON6.out.call hC)
  have PB7 := Lib.hid (PB6.out.call hC)
  have R7 := Lib.hid (hC.rd R6.out HF6.out)
  have A7 := Lib.hid hA7
  clear hC hgot hA7
  go_wp2_with fail
  refine (show Calls Try.prog 35 _ w7 _ from ropen_calls key1 rfl seal1 _ 40 40 seal1_length (by decide) (by decide) w7 A7.out.1.rdAll).mono ?_
  intro e w8 hO
  rcases hO with ⟨tt, bb, qq, v8, ho, _, _, rfl, hown8, hb8⟩ | ⟨ho, _, _⟩
  rotate_left
  · rw [open_seal1] at ho; cases ho
  rw [open_seal1] at ho
  cases ho
  obtain ⟨A8, c8, rfl⟩ := own_slice hown8
  have s1 : (convert 41 9 (.slice (some ⟨g6, 0, none⟩) 2 c6)).run Try.prog w8 = .ok (.string ⟨#[97, 98]⟩) w8 := run_bytes_string (l := [97, 98]) Try.underlying41 Try.underlying5 Try.underlying9 (R7.out.below hb8) c6
  have s2 : (convert 41 9 (.slice A8 2 c8)).run Try.prog w8 = .ok (.string ⟨#[97, 98]⟩) w8 := run_bytes_string (l := [97, 98]) Try.underlying41 Try.underlying5 Try.underlying9 (.of_own hown8) c8
  have ON8 := Lib.hid (ON7.out.under hb8)
  have PB8 := Lib.hid (PB7.out.under hb8)
  clear hb8 hown8
  go_wp2_with fail
  refine (pseq_calls PB8.out.1 rfl).mono ?_
  rintro e w9 ⟨rfl, rfl⟩
  go_wp2_with fail
  go_ret
  exact ⟨rfl, ON8.out.below⟩
end Go.Proofs.Ytbdnoiaglighhaa
