/- The walks of package disk's New, Read, Stable, Cut, on a device that lies in memory. No statement is proved here. -/
import Derived.Test.YtbdnoiaglighhaaDevE
namespace Go.Proofs.Ytbdnoiaglighhaa
set_option linter.unusedVariables false
set_option linter.unusedSimpArgs false
open Go.RowKit Go.Maps

section
variable {w w' w2 : World} {F F' F2 : Nat → Prop} {db : Nat} {S S' S2 : Dev}
theorem Calls1.trans (h : Calls1 db S' F w w' F') (k : Calls1 db S2 F' w' w2 F2) : Calls1 db S2 F w w2 F2 :=
  ⟨k.1, fun g hg => k.2.1 g (h.2.1 g hg), fun g hg => (k.2.2.1 g hg).elim (h.2.2.1 g) (fun hs => .inr (Nat.le_trans h.2.2.2.size hs)), h.2.2.2.trans k.2.2.2 h.2.2.1⟩
theorem Calls1.refl (h : DiskAt w db S F) : Calls1 db S F w w F := ⟨h, fun _ hg => hg, fun _ hg => .inl hg, .refl _ _⟩
/-- A call that makes new blocks alone. -/
theorem Calls1.below (h : DiskAt w db S F) (hb : Below w.heap.size w w') : Calls1 db S F w w' F := ⟨h.same (.below h.lies hb), fun _ hg => hg, fun _ hg => .inl hg, .of_below _ hb⟩
/-- A store into the device's own cells. -/
theorem DiskAt.turn {mS mN : Nat} {vL vT : Value} (hl : Lies F w) (ho : F db) (hb : Blk w db 102 (devCells S mS mN vL vT)) (hp : Parts w F S mS mN vL vT) (hb' : Blk w' db 102 (devCells S' mS mN vL vT)) (hg : w.grownBy w' (some db)) (hk : S'.Ok)
    (e1 : S'.blocks = S.blocks) (e2 : S'.size = S.size) (e3 : S'.stable = S.stable) (e4 : S'.now = S.now) (e5 : S'.loose = S.loose) (e6 : S'.trace = S.trace) : Calls1 db S' F w w' F := by
  have hs := SameBut.grown hl hg
  have h102 : ∀ t, (102 : TypeId) ≠ t → NoRow w db t := fun t ht => NoRow.of hb ht
  have hp' := hp.but hs (h102 5 (by decide)) (h102 105 (by decide)) (h102 50 (by decide)) (hp.stable.apart hb) (hp.now.apart hb)
  refine ⟨⟨hl.mono hg.size, ho, hk, mS, mN, vL, vT, hb', ?_⟩, fun _ hg => hg, fun _ hg => .inl hg, .of_grown hg ho⟩
  obtain ⟨p1, p2, p3, p4, p5⟩ := hp'
  exact ⟨by rw [e1, e2, e3]; exact p1, by rw [e1, e2, e4]; exact p2, by rw [e1, e2, e5]; exact p3, by rw [e6]; exact p4, p5⟩
theorem tick_ok (hk : S.Ok) : S.tick.Ok := ⟨hk.blocks, hk.size, hk.pos, by have := hk.after; unfold Dev.tick; simp only; split <;> omega⟩
theorem dead_ok (hk : S.Ok) : S.dead.Ok := ⟨hk.blocks, hk.size, hk.pos, hk.after⟩
theorem count_calls (h : DiskAt w db S F) (hl : S.live) : Calls Try.prog 74 #[.pointer (some ⟨db, 0, none⟩)] w fun e w' => e = .returned (.tuple #[]) ∧ Calls1 db S.tick F w w' F := by
  obtain ⟨hlies, ho, hk, mS, mN, vL, vT, hb, hp⟩ := h
  refine (count_live hb hl hk.after).mono ?_
  rintro e w' ⟨he, hb', hg⟩
  exact ⟨he, DiskAt.turn hlies ho hb hp hb' hg (tick_ok hk) rfl rfl rfl rfl rfl rfl⟩
theorem count_gone (h : DiskAt w db S F) (hl : ¬ S.live) : Calls Try.prog 74 #[.pointer (some ⟨db, 0, none⟩)] w fun e w' => e = .panicked [gone] ∧ Calls1 db S.dead F w w' F := by
  obtain ⟨hlies, ho, hk, mS, mN, vL, vT, hb, hp⟩ := h
  refine (count_dead hb hl).mono ?_
  rintro e w' ⟨he, hb', hg⟩
  exact ⟨he, DiskAt.turn hlies ho hb hp hb' hg (dead_ok hk) rfl rfl rfl rfl rfl rfl⟩
theorem cut_calls (h : DiskAt w db S F) (n : Int) (hn : n ≤ 9223372036854775807) : Calls Try.prog 50 #[.pointer (some ⟨db, 0, none⟩), .int .i64 n] w fun e w' => e = .returned (.tuple #[]) ∧ Calls1 db (S.cut n) F w w' F := by
  obtain ⟨hlies, ho, hk, mS, mN, vL, vT, hb, hp⟩ := h
  refine (cut_cells hb n).mono ?_
  rintro e w' ⟨he, hb', hg⟩
  exact ⟨he, DiskAt.turn hlies ho hb hp hb' hg ⟨hk.blocks, hk.size, hk.pos, by unfold Dev.cut; simp only; omega⟩ rfl rfl rfl rfl rfl rfl⟩
theorem dsize_calls (h : DiskAt w db S F) : Calls Try.prog 97 #[.pointer (some ⟨db, 0, none⟩)] w fun e w' => e = .returned (.int .i64 (S.size : Int)) ∧ w = w' := by
  obtain ⟨hlies, ho, hk, mS, mN, vL, vT, hb, hp⟩ := h
  exact size_calls hb
/-- What a call that reads a block hands back: a block of the caller's own, or none. -/
def Got (F : Nat → Prop) (w w' : World) (has : Prop) (v : Value) (l : List UInt8) (n : Nat) : Prop := (¬ has ∧ v = .slice none 0 0 ∧ l = []) ∨ (has ∧ ∃ g, v = .slice (some ⟨g, 0, none⟩) n n ∧ Blk w' g 5 (bs l) ∧ l.length = n ∧ w.heap.size ≤ g ∧ ¬ F g)
theorem block_length (f : Int → Option (List UInt8)) (x : Int) (hx : S.has x) {m : Nat} (h : MapIs w F m S.blocks S.size f) : (S.block f x).length = S.size := by
  rw [block_in S f hx]
  have := h.2.choose_spec.2.2 x hx.1 hx.2
  cases hf : f x with
  | none => simp
  | some l => simp only [hf] at this; simpa using this.1
set_option maxRecDepth 100000 in
theorem stable_calls (h : DiskAt w db S F) (x : Int) : Calls Try.prog 29 #[.pointer (some ⟨db, 0, none⟩), .int .i64 x] w fun e w' => ∃ v, e = .returned v ∧ Got F w w' (S.has x) v (S.block S.stable x) S.size ∧ Calls1 db S F w w' F := by
  have hD := h
  obtain ⟨hlies, ho, hk, mS, mN, vL, vT, hb, hp⟩ := h
  have c2 := hb.dev.2.2.1
  have HB := Lib.hid hb
  have HP := Lib.hid hp
  have HD := Lib.hid hD
  clear hb hp hD
  go_enter Try.func29, Try.ntmps29
  go_wp2_with fail
  refine (dblock_calls HB.out hlies HP.out.stable hk x).mono ?_
  rintro e w1 (⟨hx, rfl, rfl⟩ | ⟨hx, rfl, hb1, hbel⟩)
  · go_wp2_with fail
    go_ret
    exact ⟨_, rfl, .inl ⟨hx, rfl, by unfold Dev.block; rw [if_neg hx]⟩, .refl HD.out⟩
  · go_wp2_with fail
    go_ret
    exact ⟨_, rfl, .inr ⟨hx, _, rfl, hb1, block_length _ _ hx HP.out.stable, Nat.le_refl _, fun hg => by have := hlies _ hg; omega⟩, .below HD.out hbel⟩
theorem tick_has (x : Int) : S.tick.has x = S.has x := rfl
theorem tick_block (f : Int → Option (List UInt8)) (x : Int) : S.tick.block f x = S.block f x := rfl
theorem Calls1.disk (h : Calls1 db S' F w w' F') : DiskAt w' db S' F' := h.1
/-- What was not the device's before a call, and is none of its new blocks, is as it was. -/
theorem Calls1.out (h : Calls1 db S' F w w' F') {g : Nat} (hg : ¬ F g) (hlt : g < w.heap.size) : ¬ F' g := fun hk => (h.2.2.1 g hk).elim hg (fun h => by omega)
theorem Calls1.blk (h : Calls1 db S' F w w' F') {g : Nat} {t : TypeId} {cs : List Value} (hb : Blk w g t cs) (hg : ¬ F g) : Blk w' g t cs := (h.2.2.2.block g hb.lt hg).trans hb
theorem Calls1.rd (h : Calls1 db S' F w w' F') {g o : Nat} {xs : List Value} (hr : Rd w (some ⟨g, o, none⟩) xs) (hg : ¬ F g) : Rd w' (some ⟨g, o, none⟩) xs := by
  intro hn
  obtain ⟨b, q, hA, cs, t, fr, hb, hc⟩ := hr hn
  injection hA with hA
  injection hA with h1 h2
  subst h1 h2
  exact ⟨g, o, rfl, cs, t, fr, (h.2.2.2.block g (lt_of_heap hb) hg).trans hb, hc⟩
set_option maxHeartbeats 400000 in
set_option maxRecDepth 100000 in
theorem read_calls (h : DiskAt w db S F) (hl : S.live) (htr : S.trace.length ≤ 1000000) (x : Int) : Calls Try.prog 27 #[.pointer (some ⟨db, 0, none⟩), .int .i64 x] w fun e w' => ∃ v F', e = .returned v ∧ Got F' w w' (S.has x) v (S.block S.now x) S.size ∧ Calls1 db (S.read x) F w w' F' := by
  have HD := Lib.hid h
  clear h
  go_enter Try.func27, Try.ntmps27
  go_wp2_with fail
  refine (count_calls HD.out hl).mono ?_
  rintro e w1 ⟨rfl, hC⟩
  have HC := Lib.hid hC
  obtain ⟨hlies, ho, hk, mS, mN, vL, vT, hb, hp⟩ := hC.disk
  have c3 := hb.dev.2.2.2.1
  have HB := Lib.hid hb
  have HP := Lib.hid hp
  clear hb hp hC
  go_wp2_with fail
  refine (dblock_calls HB.out hlies HP.out.now hk x).mono ?_
  rintro e w2 (⟨hx, rfl, rfl⟩ | ⟨hx, rfl, hb2, hbel⟩)
  · go_wp2_with fail
    refine (note_calls HC.out.disk 1 x none 0 0 [] rfl (Nat.le_refl _) (.nil _ _) none (.slice none 0 0) rfl htr).mono ?_
    rintro e w3 ⟨rfl, F', hN⟩
    go_wp2_with fail
    go_ret
    have e0 : S.block S.now x = [] := by unfold Dev.block; rw [if_neg (show ¬ S.has x from hx)]
    refine ⟨_, F', rfl, .inl ⟨hx, rfl, e0⟩, ?_⟩
    unfold Dev.read
    rw [e0]
    exact HC.out.trans hN
  · have hlen := block_length S.tick.now x hx HP.out.now
    have HB2 := Lib.hid hb2
    have hout : ¬ F w1.heap.size := fun hg => by have := hlies _ hg; omega
    have HC2 := Lib.hid (HC.out.trans (.below HC.out.disk hbel))
    clear hbel hb2
    go_wp2_with fail
    refine (note_calls HC2.out.disk 1 x (some ⟨w1.heap.size, 0, none⟩) S.size S.size (S.block S.now x) hlen (Nat.le_refl _) HB2.out.rdAll none (.slice none 0 0) rfl htr).mono ?_
    rintro e w3 ⟨rfl, F', hN⟩
    go_wp2_with fail
    go_ret
    exact ⟨_, F', rfl, .inr ⟨hx, _, rfl, hN.blk HB2.out hout, hlen, HC.out.2.2.2.size, hN.out hout HB2.out.lt⟩, HC2.out.trans hN⟩
/-- Without power. -/
theorem read_gone (h : DiskAt w db S F) (hl : ¬ S.live) (x : Int) : Calls Try.prog 27 #[.pointer (some ⟨db, 0, none⟩), .int .i64 x] w fun e w' => e = .panicked [gone] ∧ Calls1 db S.dead F w w' F := by
  have HD := Lib.hid h
  clear h
  go_enter Try.func27, Try.ntmps27
  go_wp2_with fail
  refine (count_gone HD.out hl).mono ?_
  rintro e w1 ⟨rfl, hC⟩
  go_wp2_with fail
  exact ⟨rfl, rfl, hC⟩
end
end Go.Proofs.Ytbdnoiaglighhaa
