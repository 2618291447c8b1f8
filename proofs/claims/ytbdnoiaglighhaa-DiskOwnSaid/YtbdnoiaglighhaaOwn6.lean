/- The walk of dumbwaiterlaw6.DiskOwn. No statement is proved here. -/
import Derived.Test.YtbdnoiaglighhaaAwake6
namespace Go.Proofs.Ytbdnoiaglighhaa
set_option linter.unusedVariables false
set_option linter.unusedSimpArgs false
open Go.RowKit Go.Maps

def o1 (x : Int) (m : List UInt8) : Dev := (Dev.fresh 4 8).write x m
def o2 (x : Int) (m : List UInt8) : Dev := (o1 x m).read x
def o3 (x : Int) (m : List UInt8) : Dev := (o2 x m).flush
def o4 (x : Int) (m : List UInt8) : Dev := (o3 x m).read x
section
variable {x : Int} {m : List UInt8}
theorem o1_eq (h0 : 0 ≤ x) (h1 : x < 4) (hm : m.length = 8) : o1 x m = { blocks := 4, size := 8, stable := fun _ => none, now := upd (fun _ => none) x m, loose := [(x, m)], after := -1, off := false, trace := [⟨2, x, fit 12 m, some m⟩] } := by
  unfold o1 Dev.write
  rw [if_pos (show (Dev.fresh 4 8).has x from ⟨h0, h1⟩), show fit (Dev.fresh 4 8).size m = m from fit_same _ _ hm]
  rfl
theorem read_of {S : Dev} {x : Int} {l : List UInt8} (hx : S.has x) (hf : S.now x = some l) (ha : S.after = -1) : S.read x = { S with trace := S.trace ++ [⟨1, x, fit 12 l, none⟩] } := by
  have hb : S.block S.now x = l := by rw [block_in S _ hx, hf]; rfl
  have ht : S.tick = S := by unfold Dev.tick; rw [ha]; cases S; subst ha; rfl
  unfold Dev.read
  rw [hb, ht]
  rfl
theorem upd_same (f : Int → Option (List UInt8)) (x : Int) (l : List UInt8) : upd f x l x = some l := by simp [upd]
theorem o2_eq (h0 : 0 ≤ x) (h1 : x < 4) (hm : m.length = 8) : o2 x m = { blocks := 4, size := 8, stable := fun _ => none, now := upd (fun _ => none) x m, loose := [(x, m)], after := -1, off := false, trace := [⟨2, x, fit 12 m, some m⟩, ⟨1, x, fit 12 m, none⟩] } := by
  unfold o2
  rw [o1_eq h0 h1 hm, read_of (l := m) ⟨h0, h1⟩ (show upd (fun _ => none) x m x = some m from upd_same _ _ _) rfl]
  rfl
theorem o3_eq (h0 : 0 ≤ x) (h1 : x < 4) (hm : m.length = 8) : o3 x m = { blocks := 4, size := 8, stable := upd (fun _ => none) x m, now := upd (fun _ => none) x m, loose := [], after := -1, off := false, trace := [⟨2, x, fit 12 m, some m⟩, ⟨1, x, fit 12 m, none⟩, ⟨3, 0, fit 12 [], none⟩] } := by
  unfold o3
  rw [o2_eq h0 h1 hm]
  rfl
theorem o4_eq (h0 : 0 ≤ x) (h1 : x < 4) (hm : m.length = 8) : o4 x m = { blocks := 4, size := 8, stable := upd (fun _ => none) x m, now := upd (fun _ => none) x m, loose := [], after := -1, off := false, trace := [⟨2, x, fit 12 m, some m⟩, ⟨1, x, fit 12 m, none⟩, ⟨3, 0, fit 12 [], none⟩, ⟨1, x, fit 12 m, none⟩] } := by
  unfold o4
  rw [o3_eq h0 h1 hm, read_of (l := m) ⟨h0, h1⟩ (show upd (fun _ => none) x m x = some m from upd_same _ _ _) rfl]
  rfl
end
theorem list8 (m : List UInt8) (h : m.length = 8) : ∃ m0 m1 m2 m3 m4 m5 m6 m7, m = [m0, m1, m2, m3, m4, m5, m6, m7] := by
  match m, h with
  | [m0, m1, m2, m3, m4, m5, m6, m7], _ => exact ⟨m0, m1, m2, m3, m4, m5, m6, m7, rfl⟩
theorem and3 (n : Int) : ∃ x : Int, bits .and .i64 n 3 = x ∧ 0 ≤ x ∧ x < 4 := by
  refine ⟨_, rfl, ?_⟩
  have hm : (BitVec.ofInt 64 3).toNat = 2 ^ 2 - 1 := by decide
  have key : (BitVec.ofInt 64 n &&& BitVec.ofInt 64 3).toNat = (BitVec.ofInt 64 n).toNat % 2 ^ 2 := by
    rw [BitVec.toNat_and, hm, Nat.and_two_pow_sub_one_eq_mod]
  have h : bits .and .i64 n 3 = IntKind.i64.wrap ((BitVec.ofInt 64 n &&& BitVec.ofInt 64 3).toNat : Nat) := rfl
  rw [h, key, IntKind.wrap_i64]
  generalize (BitVec.ofInt 64 n).toNat = q
  omega
set_option maxHeartbeats 2000000 in
set_option maxRecDepth 100000 in
theorem own6_calls (w : World) (A : Option Addr) (n c : Nat) (l : List UInt8) (hl : l.length = n) (hc : n ≤ c) (hn : n ≤ 140737488355328) (at_ : Int) (hr : Rd w A (bs l)) : Calls Try.prog 4 #[.slice A n c, .int .i64 at_] w fun e w' => e = .returned (.bool true) ∧ Below w.heap.size w w' := by
  obtain ⟨x, hx, x0, x1⟩ := and3 at_
  have HL := Lib.hid hl
  have HR := Lib.hid hr
  clear hl hr
  go_enter Try.func4, Try.ntmps4
  go_wp2_with fail
  refine (new_calls 4 8 (by decide) (by decide) (by decide) w).mono ?_
  rintro e w1 ⟨db, rfl, F0, hD0, hlow0, hb1⟩
  have ON1 := Lib.hid (On.new (Below.refl _ w) hD0 hlow0 hb1)
  have HR1 := Lib.hid (HR.out.below hb1)
  clear hD0 hlow0 hb1
  by_cases h8 : n < 8
  · have h8' : (n : Int) < 8 := by omega
    go_wp2_with fail
    refine (awake6_calls w1).mono ?_
    rintro e w2 ⟨rfl, hb2⟩
    have HE := Lib.hid (ON1.out.under hb2).below
    clear hb2
    go_wp2_with fail
    go_ret
    exact ⟨rfl, HE.out⟩
  · have h8' : ¬ (n : Int) < 8 := by omega
    obtain ⟨b, o, hA, -⟩ := HR.out.cell (k := 0) (by rw [bs_length, HL.out]; omega)
    subst hA
    obtain ⟨m, hm⟩ : ∃ m, m = l.take 8 := ⟨_, rfl⟩
    have hml : m.length = 8 := by rw [hm, List.length_take, HL.out]; omega
    have hrm : Rd w1 (some ⟨b, o, none⟩) (bs m) := by
      rw [hm]
      exact rd_to HR1.out 8
    have HM := Lib.hid hm
    obtain ⟨m0, m1, m2, m3, m4, m5, m6, m7, rfl⟩ := list8 m hml
    clear hml
    have HRM := Lib.hid hrm
    clear hm hrm
    have hown0 := own_empty w1 w1.heap.size (Nat.le_refl _)
    go_wp2_with (first
      | (at_builtin; refine wpList_appAny (v := .slice (some ⟨w1.heap.size, 0, none⟩) 0 0) (m := 8) S41 rfl (.tmp 24) (.tmp 26) rfl rfl rfl hown0 (HRM.out.alloc _) rfl (bs_one _) (by omega) (by unfold maxLen; omega) (by simp) ?_; intro v2 w2 hown2 hg2 hl2))
    rw [Nat.zero_add, List.nil_append] at hown2
    obtain ⟨A2, c2, rfl⟩ := own_slice hown2
    obtain ⟨g2, rfl, hc2, _, _⟩ := own_at hown2 (by decide)
    have hown2 : w2.ownsRow w1.heap.size 5 1 (.slice (some ⟨g2, 0, none⟩) 8 c2) 8 (bs [m0, m1, m2, m3, m4, m5, m6, m7]) := hown2
    have hg2' := hown2.lt g2 rfl
    have hlz := ON1.out.disk.lies
    have hn1 : ¬ F0 w1.heap.size := fun h => Nat.lt_irrefl _ (hlz _ h)
    have hng : ¬ F0 g2 := fun h => by have := hlz _ h; omega
    have ON2 := Lib.hid ((ON1.out.alloc (.cells #[] 5)).grown hg2 hn1 ON1.out.below.size)
    have s1 : (convert 41 9 (.slice (some ⟨g2, 0, none⟩) 8 c2)).run Try.prog w2 = .ok (.string ⟨#[m0, m1, m2, m3, m4, m5, m6, m7]⟩) w2 := run_bytes_string (l := [m0, m1, m2, m3, m4, m5, m6, m7]) Try.underlying41 Try.underlying5 Try.underlying9 (.of_own hown2) c2
    have RD2 := Lib.hid (Rd.of_own hown2)
    obtain ⟨cs2, hcs2, hcl2, hget2, -⟩ := own_put hown2 (j := 3) (by decide)
    have OW2 := Lib.hid (show Own w w2 F0 g2 5 cs2 from ⟨hcs2, hng, by have := ON1.out.below.size; omega⟩)
    have HQ3 := Lib.hid (show cs2[3]? = some (byt m3) from hget2 3 (by decide))
    clear hown2 hg2 hl2 hown0 hcs2 hget2 hlz hn1
    simp only [s1]
    go_wp2_with fail
    refine (write_calls (S := Dev.fresh 4 8) ON2.out.disk (by decide) (by decide) (by decide) x _ 8 c2 [m0, m1, m2, m3, m4, m5, m6, m7] rfl RD2.out (fun a h => by cases h; exact OW2.out.2.1)).mono ?_
    rintro e w3 ⟨rfl, F3, hC⟩
    have ON3 := Lib.hid (show On w w3 db (o1 x [m0, m1, m2, m3, m4, m5, m6, m7]) F3 from ON2.out.call hC)
    have OW3 := Lib.hid (OW2.out.call hC)
    have p3 := OW3.out.1.cellAt (i := 3) (v := .int .u8 (m3.toNat : Int)) HQ3.out
    have z3 := OW3.out.1.frozen 3
    clear hC
    go_wp2_with fail
    have hml : [m0, m1, m2, m3, m4, m5, m6, m7].length = 8 := rfl
    obtain ⟨m, hm⟩ : ∃ m, m = [m0, m1, m2, m3, m4, m5, m6, m7] := ⟨_, rfl⟩
    have E1 := Lib.hid (o1_eq (x := x) x0 x1 (m := m) (by rw [hm]; rfl))
    have E2 := Lib.hid (o2_eq (x := x) x0 x1 (m := m) (by rw [hm]; rfl))
    have E3 := Lib.hid (o3_eq (x := x) x0 x1 (m := m) (by rw [hm]; rfl))
    have E4 := Lib.hid (o4_eq (x := x) x0 x1 (m := m) (by rw [hm]; rfl))
    have HM2 := Lib.hid hm
    rw [← hm] at ON3
    clear hm hml hown2
    refine (read_calls (S := o1 x m) (ON3.out.setCell (p := ⟨g2, 3, none⟩) OW3.out.2.1 OW3.out.2.2 _).disk (by rw [E1.out]; exact ⟨rfl, by show (-1 : Int) ≠ 0; decide⟩) (by rw [E1.out]; show (1 : Nat) ≤ 1000000; decide) x).mono ?_
    rintro e w4 ⟨v4, F4, rfl, hgot, hC⟩
    obtain ⟨gx, rfl, hAx, -, -⟩ := hgot.yes (n' := 8) (l' := [m0, m1, m2, m3, m4, m5, m6, m7]) (by rw [E1.out]; exact ⟨x0, x1⟩) (ON3.out.setCell (p := ⟨g2, 3, none⟩) OW3.out.2.1 OW3.out.2.2 _).below (by rw [E1.out]) (by rw [E1.out]; show (if _ then _ else _) = _; rw [if_pos ⟨x0, x1⟩]; show (upd (fun _ => none) x m x).getD _ = _; rw [upd_same, HM2.out]; rfl)
    have ON4 := Lib.hid (show On w w4 db (o2 x m) F4 from (ON3.out.setCell (p := ⟨g2, 3, none⟩) OW3.out.2.1 OW3.out.2.2 _).call hC)
    have s1 : (convert 41 9 (.slice (some ⟨gx, 0, none⟩) 8 8)).run Try.prog w4 = .ok (.string ⟨#[m0, m1, m2, m3, m4, m5, m6, m7]⟩) w4 := run_bytes_string (l := [m0, m1, m2, m3, m4, m5, m6, m7]) Try.underlying41 Try.underlying5 Try.underlying9 hAx.1.rdAll 8
    have OWx := Lib.hid hAx
    have p3 := OWx.out.1.cellAt (i := 2) (v := .int .u8 (m2.toNat : Int)) rfl
    have z3 := OWx.out.1.frozen 2
    clear hC hgot hAx
    go_wp2_with fail
    have live3 : (o3 x m).live := by rw [E3.out]; exact ⟨rfl, by show (-1 : Int) ≠ 0; decide⟩
    refine (flush_calls (S := o2 x m) (ON4.out.setCell (p := ⟨gx, 2, none⟩) OWx.out.2.1 OWx.out.2.2 _).disk (by rw [E2.out]; exact ⟨rfl, by show (-1 : Int) ≠ 0; decide⟩) (by rw [E2.out]; show (2 : Nat) ≤ 1000000; decide) (by rw [E2.out]; show (1 : Nat) ≤ 1000000; decide)).mono ?_
    rintro e w5 ⟨rfl, F5, hC⟩
    have ON5 := Lib.hid (show On w w5 db (o3 x m) F5 from (ON4.out.setCell (p := ⟨gx, 2, none⟩) OWx.out.2.1 OWx.out.2.2 _).call hC)
    clear hC p3 z3 s1
    go_wp2_with fail
    refine (stable_calls (S := o3 x m) ON5.out.disk x).mono ?_
    rintro e w6 ⟨v6, rfl, hgot, hC⟩
    obtain ⟨gy, rfl, hAy, -, -⟩ := hgot.yes (n' := 8) (l' := [m0, m1, m2, m3, m4, m5, m6, m7]) (by rw [E3.out]; exact ⟨x0, x1⟩) ON5.out.below (by rw [E3.out]) (by rw [E3.out]; show (if _ then _ else _) = _; rw [if_pos ⟨x0, x1⟩]; show (upd (fun _ => none) x m x).getD _ = _; rw [upd_same, HM2.out]; rfl)
    have ON6 := Lib.hid (show On w w6 db (o3 x m) F5 from ON5.out.call hC)
    have s1 : (convert 41 9 (.slice (some ⟨gy, 0, none⟩) 8 8)).run Try.prog w6 = .ok (.string ⟨#[m0, m1, m2, m3, m4, m5, m6, m7]⟩) w6 := run_bytes_string (l := [m0, m1, m2, m3, m4, m5, m6, m7]) Try.underlying41 Try.underlying5 Try.underlying9 hAy.1.rdAll 8
    have OWy := Lib.hid hAy
    have p3 := OWy.out.1.cellAt (i := 1) (v := .int .u8 (m1.toNat : Int)) rfl
    have z3 := OWy.out.1.frozen 1
    clear hC hgot hAy
    go_wp2_with fail
    have BOD := Lib.hid (show (o3 x m).Bodies by
      rw [E3.out]
      intro e he l hl
      simp only [List.mem_cons, List.mem_nil_iff, or_false] at he
      rcases he with rfl | rfl | rfl <;> simp at hl
      subst hl
      rw [HM2.out]; simp)
    refine (trace_calls (S := o3 x m) (ON6.out.setCell (p := ⟨gy, 1, none⟩) OWy.out.2.1 OWy.out.2.2 _).disk (by rw [E3.out]; show (3 : Nat) ≤ 1000000; decide) BOD.out).mono ?_
    rintro e w7 ⟨vt, rfl, htr, hbt⟩
    have TR := Shown.of htr (ON6.out.setCell (p := ⟨gy, 1, none⟩) OWy.out.2.1 OWy.out.2.2 _).disk.lies (ON6.out.setCell (p := ⟨gy, 1, none⟩) OWy.out.2.1 OWy.out.2.2 _).below
    have ON7 := Lib.hid ((ON6.out.setCell (p := ⟨gy, 1, none⟩) OWy.out.2.1 OWy.out.2.2 _).under hbt)
    have hlen3 : (o3 x m).trace.length = 3 := by rw [E3.out]; rfl
    obtain ⟨gt, ct, rfl, hgtF, hgt0, hgtl, hgtz, -, -, bv, k00, hbody⟩ := TR.at_ (i := 0) (e := ⟨2, x, fit 12 m, some m⟩) (by rw [E3.out]; rfl)
    obtain ⟨gt2, ct2, heq, -, -, -, -, hev1, -⟩ := TR.at_ (i := 1) (e := ⟨1, x, fit 12 m, none⟩) (by rw [E3.out]; rfl)
    injection heq with heq _ _
    have heq := Option.some.inj heq
    injection heq with heq _ _
    subst heq
    obtain ⟨k, cap, rfl, hcap, hrd, hkF, hk0, hkl, hkne, hkz⟩ := hbody
    rw [HM2.out] at hrd
    have hcap8 : 8 ≤ cap := by rw [HM2.out] at hcap; exact hcap
    have k0 : w7.cell? ⟨gt, 14, none⟩ = some (.slice (some ⟨k, 0, none⟩) 8 cap) := by rw [HM2.out] at k00; exact k00
    have k1 : w7.cell? ⟨gt, 16, none⟩ = some (.int .i64 x) := hev1.place
    have s1 : (convert 41 9 (.slice (some ⟨k, 0, none⟩) 8 cap)).run Try.prog w7 = .ok (.string ⟨#[m0, m1, m2, m3, m4, m5, m6, m7]⟩) w7 := run_bytes_string (l := [m0, m1, m2, m3, m4, m5, m6, m7]) Try.underlying41 Try.underlying5 Try.underlying9 hrd cap
    obtain ⟨bb, oo, hA, kb0⟩ := hrd.cell (k := 0) (by simp)
    injection hA with hA
    injection hA with h1 h2
    subst h1 h2
    have kb : w7.cell? ⟨k, 0, none⟩ = some (.int .u8 (m0.toNat : Int)) := kb0
    have kz := hkz 0
    have k16 : ∀ u, (w7.setCell ⟨k, 0, none⟩ u).cell? ⟨gt, 16, none⟩ = some (.int .i64 x) := fun u => (World.cell?_of_block (w := w7) (Below.heap_setCell w7 _ u gt (Ne.symm hkne))).trans k1
    have z16 : ∀ u, (w7.setCell ⟨k, 0, none⟩ u).frozen? ⟨gt, 16, none⟩ = false := fun u => (World.frozen?_of_block (w := w7) (Below.heap_setCell w7 _ u gt (Ne.symm hkne))).trans (hgtz 16)
    rw [hlen3]
    have HKF := Lib.hid (And.intro hkF hk0)
    have HGF := Lib.hid (And.intro hgtF hgt0)
    have HL3 := Lib.hid hlen3
    have HLV := Lib.hid live3
    clear k00 hkz kb0 hrd hev1 htr hbt TR hgtz p3 z3 hkF hk0 hgtF hgt0 hlen3 live3 hcap
    go_wp2_with fail
    clear s1 k0 k1 kb kz k16 z16
    have ON8 := fun u => ((ON7.out.setCell (p := ⟨k, 0, none⟩) HKF.out.1 HKF.out.2 u).setCell (p := ⟨gt, 16, none⟩) HGF.out.1 HGF.out.2 (.int .i64 77))
    have HON8 := Lib.hid ON8
    clear ON8
    refine (trace_calls (S := o3 x m) (HON8.out _).disk (by rw [E3.out]; show (3 : Nat) ≤ 1000000; decide) BOD.out).mono ?_
    rintro e w9 ⟨vu, rfl, htr, hbt⟩
    have TU := Shown.of htr (HON8.out _).disk.lies (HON8.out _).below
    have ON9 := Lib.hid ((HON8.out _).under hbt)
    obtain ⟨gu, cu, rfl, -⟩ := TU.at_ (i := 0) (e := ⟨2, x, fit 12 m, some m⟩) (by rw [E3.out]; rfl)
    rw [HL3.out] at TU
    rw [HL3.out]
    have HTU := Lib.hid TU
    clear htr hbt TU
    go_wp2_with fail
    refine (read_calls (S := o3 x m) ON9.out.disk HLV.out (by rw [E3.out]; show (3 : Nat) ≤ 1000000; decide) x).mono ?_
    rintro e wa ⟨va, Fa, rfl, hgot, hC⟩
    obtain ⟨ga, rfl, hAa, -, -⟩ := hgot.yes (n' := 8) (l' := [m0, m1, m2, m3, m4, m5, m6, m7]) (by rw [E3.out]; exact ⟨x0, x1⟩) ON9.out.below (by rw [E3.out]) (by rw [E3.out]; show (if _ then _ else _) = _; rw [if_pos ⟨x0, x1⟩]; show (upd (fun _ => none) x m x).getD _ = _; rw [upd_same, HM2.out]; rfl)
    have ONa := Lib.hid (show On w wa db (o4 x m) Fa from ON9.out.call hC)
    have TUa := Lib.hid (HTU.out.call hC)
    have s1 : (convert 41 9 (.slice (some ⟨ga, 0, none⟩) 8 8)).run Try.prog wa = .ok (.string ⟨#[m0, m1, m2, m3, m4, m5, m6, m7]⟩) wa := run_bytes_string (l := [m0, m1, m2, m3, m4, m5, m6, m7]) Try.underlying41 Try.underlying5 Try.underlying9 hAa.1.rdAll 8
    clear hC hgot hAa
    go_wp2_with fail
    refine (stable_calls (S := o4 x m) ONa.out.disk x).mono ?_
    rintro e wb ⟨vb, rfl, hgot, hC⟩
    obtain ⟨gb, rfl, hAb, -, -⟩ := hgot.yes (n' := 8) (l' := [m0, m1, m2, m3, m4, m5, m6, m7]) (by rw [E4.out]; exact ⟨x0, x1⟩) ONa.out.below (by rw [E4.out]) (by rw [E4.out]; show (if _ then _ else _) = _; rw [if_pos ⟨x0, x1⟩]; show (upd (fun _ => none) x m x).getD _ = _; rw [upd_same, HM2.out]; rfl)
    have ONb := Lib.hid (show On w wb db (o4 x m) Fa from ONa.out.call hC)
    have TUb := TUa.out.call hC
    have s2 : (convert 41 9 (.slice (some ⟨gb, 0, none⟩) 8 8)).run Try.prog wb = .ok (.string ⟨#[m0, m1, m2, m3, m4, m5, m6, m7]⟩) wb := run_bytes_string (l := [m0, m1, m2, m3, m4, m5, m6, m7]) Try.underlying41 Try.underlying5 Try.underlying9 hAb.1.rdAll 8
    obtain ⟨gt, ct, heq, -, -, -, -, -, -, bv, k00, hbody⟩ := TUb.at_ (i := 0) (e := ⟨2, x, fit 12 m, some m⟩) (by rw [E3.out]; rfl)
    injection heq with heq hn1 _
    clear hn1
    have heq := Option.some.inj heq
    injection heq with heq _ _
    subst heq
    obtain ⟨gt, ct, heq, -, -, -, -, hev1, -⟩ := TUb.at_ (i := 1) (e := ⟨1, x, fit 12 m, none⟩) (by rw [E3.out]; rfl)
    injection heq with heq hn1 _
    clear hn1
    have heq := Option.some.inj heq
    injection heq with heq _ _
    subst heq
    obtain ⟨k, cap, rfl, hcap, hrd, -, -, -, -, -⟩ := hbody
    rw [HM2.out] at hrd
    have k0 : wb.cell? ⟨gu, 14, none⟩ = some (.slice (some ⟨k, 0, none⟩) 8 cap) := by rw [HM2.out] at k00; exact k00
    have k1 : wb.cell? ⟨gu, 16, none⟩ = some (.int .i64 x) := hev1.place
    have s3 : (convert 41 9 (.slice (some ⟨k, 0, none⟩) 8 cap)).run Try.prog wb = .ok (.string ⟨#[m0, m1, m2, m3, m4, m5, m6, m7]⟩) wb := run_bytes_string (l := [m0, m1, m2, m3, m4, m5, m6, m7]) Try.underlying41 Try.underlying5 Try.underlying9 hrd cap
    clear k00 hev1 hrd TUb hC hgot hAb hcap s1
    go_wp2_with fail
    refine (awake6_calls wb).mono ?_
    rintro e wz ⟨rfl, hz⟩
    have HE := Lib.hid (ONb.out.under hz).below
    clear hz
    go_wp2_with fail
    go_ret
    exact ⟨rfl, HE.out⟩
end Go.Proofs.Ytbdnoiaglighhaa
