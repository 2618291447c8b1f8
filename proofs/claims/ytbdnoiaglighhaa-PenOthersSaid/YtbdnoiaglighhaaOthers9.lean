/- The walk of dumbwaiterlaw9.PenOthers. No statement is proved here. -/
import Derived.Test.YtbdnoiaglighhaaAwake9
import Derived.Test.YtbdnoiaglighhaaTells7
namespace Go.Proofs.Ytbdnoiaglighhaa
set_option linter.unusedVariables false
set_option linter.unusedSimpArgs false
set_option linter.constructorNameAsVariable false
open Go.RowKit Go.Maps

theorem reads_as {S : Dev} {x : Int} {l : List UInt8} (hx : S.has x) (hf : S.now x = some l) (ha : S.after = -1) : S.read x = { S with trace := S.trace ++ [⟨1, x, fit 12 l, none⟩] } := by
  have hb : S.block S.now x = l := by rw [block_in S _ hx, hf]; rfl
  unfold Dev.read
  rw [hb, after_of ha]
  rfl
theorem writes_as {S : Dev} {x : Int} {l : List UInt8} (hx : S.has x) (ha : S.after = -1) : S.write x l = { S with now := upd S.now x (fit S.size l), loose := S.loose ++ [(x, fit S.size l)], trace := S.trace ++ [⟨2, x, fit 12 (fit S.size l), some (fit S.size l)⟩] } := by
  unfold Dev.write
  rw [after_of ha]
  simp only
  rw [if_pos hx]
  rfl
theorem flushes_as {S : Dev} (ha : S.after = -1) : S.flush = { S with stable := Dev.over S.stable S.loose, loose := [], trace := S.trace ++ [⟨3, 0, fit 12 [], none⟩] } := by
  unfold Dev.flush
  rw [after_of ha]
  rfl
section
variable {w0 w w' : World} {F F' : Nat → Prop} {db pb : Nat} {S S' : Dev} {A : Option Addr} {l : List UInt8} {v : Value} {n : Nat}
theorem On.rdF (h : On w0 w db S F) (hr : Rd w0 A (bs l)) : ∀ a, A = some a → 0 < l.length → ¬ F a.block := fun a ha h0 hF => by
  obtain ⟨b, o, hA, cs, t, fr, hb, _⟩ := hr (by simpa using h0)
  rw [ha] at hA
  cases hA
  have h1 := lt_of_heap hb
  have h2 := h.low _ hF
  have : w0.heap.size ≤ b := h2
  omega
/-- What is told of an opened block. -/
def Told (r : Option (List UInt8 × Nat × Nat)) (t : List UInt8) (ok : Bool) : Prop := match r with
  | some (u, _, _) => t = u ∧ ok = true
  | none => t = [] ∧ ok = false
theorem Told.same {r : Option (List UInt8 × Nat × Nat)} {t u : List UInt8} {a b : Bool} (h : Told r t a) (k : Told r u b) : t = u ∧ a = b := by
  match r, h, k with
  | some _, h, k => exact ⟨h.1.trans k.1.symm, h.2.trans k.2.symm⟩
  | none, h, k => exact ⟨h.1.trans k.1.symm, h.2.trans k.2.symm⟩
theorem PenGot.told {F' : Nat → Prop} {w w' : World} {r : Option (List UInt8 × Nat × Nat)} {e : Ending} (h : PenGot F' w w' r e) : ∃ (t : List UInt8) (A : Option Addr) (n c : Nat) (ok : Bool), e = .returned (.tuple #[.slice A n c, .bool ok]) ∧ t.length = n ∧ ((∃ base, w'.ownsRow base 5 1 (.slice A n c) n (bs t)) ∧ ∀ g, (Value.slice A n c).ownBlock = some g → ¬ F' g) ∧ Told r t ok := by
  match r, h with
  | some (t, _, _), h =>
    obtain ⟨v6, rfl, hown6, hF6⟩ := h
    obtain ⟨A6, c6, rfl⟩ := own_slice hown6
    exact ⟨t, A6, t.length, c6, true, rfl, rfl, ⟨⟨_, hown6⟩, hF6⟩, rfl, rfl⟩
  | none, h => exact ⟨[], none, 0, 0, false, h, rfl, ⟨⟨0, World.ownsRow_nil _ _ _ _⟩, fun g hg => by cases hg⟩, rfl, rfl⟩
theorem Opened.told {key raw : List UInt8} {w w' : World} {e : Ending} (h : Opened key raw w e w') : ∃ (t : List UInt8) (A : Option Addr) (n c : Nat) (ok : Bool) (b q : Int), e = .returned (.tuple #[.slice A n c, .int .u32 b, .int .u64 q, .bool ok]) ∧ t.length = n ∧ Rd w' A (bs t) ∧ Below w.heap.size w w' ∧ Told (openB key raw) t ok := by
  rcases h with ⟨t, b, q, v, ho, _, _, rfl, hown, hb⟩ | ⟨ho, rfl, hb⟩
  · obtain ⟨A, c, rfl⟩ := own_slice hown
    exact ⟨t, A, t.length, c, true, b, q, rfl, rfl, .of_own hown, hb, by rw [ho]; exact ⟨rfl, rfl⟩⟩
  · exact ⟨[], none, 0, 0, false, 0, 0, rfl, rfl, .nil _ _, hb, by rw [ho]; exact ⟨rfl, rfl⟩⟩
/-- A row of the caller's own. -/
def Row (w : World) (F : Nat → Prop) (v : Value) (n : Nat) (l : List UInt8) : Prop := (∃ base, w.ownsRow base 5 1 v n (bs l)) ∧ ∀ g, v.ownBlock = some g → ¬ F g
theorem Row.call (h : Row w F v n l) (k : Calls1 db S' F w w' F') : Row w' F' v n l := by
  obtain ⟨⟨base, ho⟩, hF⟩ := h
  exact ⟨⟨base, own_same ho (fun g hg => k.2.2.2.block g (ho.lt g hg).2 (hF g hg))⟩, fun g hg => k.out (hF g hg) (ho.lt g hg).2⟩
theorem Row.under (h : Row w F v n l) (k : Below w.heap.size w w') : Row w' F v n l := by
  obtain ⟨⟨base, ho⟩, hF⟩ := h
  exact ⟨⟨base, own_same ho (fun g hg => k.block g (ho.lt g hg).2)⟩, hF⟩
theorem Row.rd {A : Option Addr} {c : Nat} (h : Row w F (.slice A n c) n l) : Rd w A (bs l) := h.1.elim fun _ ho => .of_own ho
end
section
variable (s l : List UInt8)
def q1 : Dev := (Dev.fresh 2 50).write 0 s
def q2 : Dev := (q1 s).read 0
def q3 : Dev := (q2 s).write 1 l
def q4 : Dev := (q3 s l).read 1
def q5 : Dev := (q4 s l).flush
variable {s l}
theorem q1_eq (hs : s.length = 50) : q1 s = { blocks := 2, size := 50, stable := fun _ => none, now := upd (fun _ => none) 0 s, loose := [(0, s)], after := -1, off := false, trace := [⟨2, 0, fit 12 s, some s⟩] } := by
  unfold q1
  rw [writes_as (by decide) rfl, show fit (Dev.fresh 2 50).size s = s from fit_same _ _ hs]
  rfl
theorem q2_eq (hs : s.length = 50) : q2 s = { blocks := 2, size := 50, stable := fun _ => none, now := upd (fun _ => none) 0 s, loose := [(0, s)], after := -1, off := false, trace := [⟨2, 0, fit 12 s, some s⟩, ⟨1, 0, fit 12 s, none⟩] } := by
  unfold q2
  rw [q1_eq hs]
  exact (reads_as (l := s) ⟨by show (0 : Int) ≤ 0; decide, by show (0 : Int) < 2; decide⟩ (by simp [upd]) rfl).trans rfl
theorem q3_eq (hs : s.length = 50) : q3 s l = { blocks := 2, size := 50, stable := fun _ => none, now := upd (upd (fun _ => none) 0 s) 1 (fit 50 l), loose := [(0, s), (1, fit 50 l)], after := -1, off := false, trace := [⟨2, 0, fit 12 s, some s⟩, ⟨1, 0, fit 12 s, none⟩, ⟨2, 1, fit 12 (fit 50 l), some (fit 50 l)⟩] } := by
  unfold q3
  rw [q2_eq hs]
  exact (writes_as ⟨by show (0 : Int) ≤ 1; decide, by show (1 : Int) < 2; decide⟩ rfl).trans rfl
theorem q4_eq (hs : s.length = 50) : q4 s l = { blocks := 2, size := 50, stable := fun _ => none, now := upd (upd (fun _ => none) 0 s) 1 (fit 50 l), loose := [(0, s), (1, fit 50 l)], after := -1, off := false, trace := [⟨2, 0, fit 12 s, some s⟩, ⟨1, 0, fit 12 s, none⟩, ⟨2, 1, fit 12 (fit 50 l), some (fit 50 l)⟩, ⟨1, 1, fit 12 (fit 50 l), none⟩] } := by
  unfold q4
  rw [q3_eq hs]
  exact (reads_as (l := fit 50 l) ⟨by show (0 : Int) ≤ 1; decide, by show (1 : Int) < 2; decide⟩ (by simp [upd]) rfl).trans rfl
theorem q5_eq (hs : s.length = 50) : q5 s l = { blocks := 2, size := 50, stable := upd (upd (fun _ => none) 0 s) 1 (fit 50 l), now := upd (upd (fun _ => none) 0 s) 1 (fit 50 l), loose := [], after := -1, off := false, trace := [⟨2, 0, fit 12 s, some s⟩, ⟨1, 0, fit 12 s, none⟩, ⟨2, 1, fit 12 (fit 50 l), some (fit 50 l)⟩, ⟨1, 1, fit 12 (fit 50 l), none⟩, ⟨3, 0, fit 12 [], none⟩] } := by
  unfold q5
  rw [q4_eq hs, flushes_as rfl]
  rfl
structure Qs (s l : List UInt8) : Prop where
  l1 : (q1 s).live
  t1 : (q1 s).trace.length ≤ 1000000
  b1 : (q1 s).block (q1 s).now 0 = s
  l2 : (q2 s).live
  t2 : (q2 s).trace.length ≤ 1000000
  o2 : (q2 s).loose.length ≤ 1000000
  l3 : (q3 s l).live
  t3 : (q3 s l).trace.length ≤ 1000000
  b3 : (q3 s l).block (q3 s l).now 1 = fit 50 l
  l4 : (q4 s l).live
  t4 : (q4 s l).trace.length ≤ 1000000
  o4 : (q4 s l).loose.length ≤ 1000000
  h5 : (q5 s l).has 1
  z5 : (q5 s l).size = 50
  b5 : (q5 s l).block (q5 s l).stable 1 = fit 50 l
theorem qs (hs : s.length = 50) : Qs s l where
  l1 := by rw [q1_eq hs]; exact ⟨rfl, by show (-1 : Int) ≠ 0; decide⟩
  t1 := by rw [q1_eq hs]; show (1 : Nat) ≤ 1000000; decide
  b1 := by rw [q1_eq hs]; refine (block_in _ _ ⟨by show (0 : Int) ≤ 0; decide, by show (0 : Int) < 2; decide⟩).trans ?_; simp [upd]
  l2 := by rw [q2_eq hs]; exact ⟨rfl, by show (-1 : Int) ≠ 0; decide⟩
  t2 := by rw [q2_eq hs]; show (2 : Nat) ≤ 1000000; decide
  o2 := by rw [q2_eq hs]; show (1 : Nat) ≤ 1000000; decide
  l3 := by rw [q3_eq hs]; exact ⟨rfl, by show (-1 : Int) ≠ 0; decide⟩
  t3 := by rw [q3_eq hs]; show (3 : Nat) ≤ 1000000; decide
  b3 := by rw [q3_eq hs]; refine (block_in _ _ ⟨by show (0 : Int) ≤ 1; decide, by show (1 : Int) < 2; decide⟩).trans ?_; simp [upd]
  l4 := by rw [q4_eq hs]; exact ⟨rfl, by show (-1 : Int) ≠ 0; decide⟩
  t4 := by rw [q4_eq hs]; show (4 : Nat) ≤ 1000000; decide
  o4 := by rw [q4_eq hs]; show (2 : Nat) ≤ 1000000; decide
  h5 := by rw [q5_eq hs]; exact ⟨by decide, by show (1 : Int) < 2; decide⟩
  z5 := by rw [q5_eq hs]
  b5 := by rw [q5_eq hs]; refine (block_in _ _ ⟨by show (0 : Int) ≤ 1; decide, by show (1 : Int) < 2; decide⟩).trans ?_; simp [upd]
end
set_option maxHeartbeats 2000000 in
set_option maxRecDepth 100000 in
theorem others9_calls (key : List UInt8) (hk : key.length = 32) (ba bb : Nat) (hba : ba < 4294967296) (hbb : bb < 4294967296) (l3 : List UInt8) (A3 : Option Addr) (n3 c3 : Nat) (h3 : l3.length = n3) (l4 : List UInt8) (A4 : Option Addr) (n4 c4 : Nat) (h4 : l4.length = n4) (w : World) (hr3 : Rd w A3 (bs l3)) (hr4 : Rd w A4 (bs l4)) :
    Calls Try.prog 12 #[.agg (bs key).toArray, .int .u32 (ba : Int), .int .u32 (bb : Int), .slice A3 n3 c3, .slice A4 n4 c4] w fun e w' => e = .returned (.bool true) ∧ Below w.heap.size w w' := by
  have KB0 := Lib.hid (Blk.new w 58 (bs key))
  have BE0 := Lib.hid ((Below.refl w.heap.size w).alloc (Nat.le_refl _) (.cells (bs key).toArray 58))
  have HK := Lib.hid hk
  have H3 := Lib.hid h3
  have H4 := Lib.hid h4
  have R3 := Lib.hid hr3
  have R4 := Lib.hid hr4
  clear hk h3 h4 hr3 hr4
  by_cases hbig : 20 < n3 ∨ 200 < n4
  · have hway : (20 < (n3 : Int) ∨ (¬ 20 < (n3 : Int)) ∧ 200 < (n4 : Int)) := by omega
    go_enter Try.func12, Try.ntmps12
    rcases hway with h | ⟨h, h'⟩
    all_goals
      go_wp2_with fail
      refine (awake9_calls _).mono ?_
      rintro e w2 ⟨rfl, hb2⟩
      have HE := Lib.hid (BE0.out.trans (hb2.mono BE0.out.size))
      clear hb2
      go_wp2_with fail
      go_ret
      exact ⟨rfl, HE.out⟩
  have h20 : ¬ 20 < (n3 : Int) := by omega
  have h200 : ¬ 200 < (n4 : Int) := by omega
  have hn3 : n3 ≤ 20 := by omega
  go_enter Try.func12, Try.ntmps12
  go_wp2_with fail
  refine (new_calls 2 50 (by decide) (by decide) (by decide) _).mono ?_
  rintro e w1 ⟨db, rfl, F0, hD0, hlow0, hb1⟩
  have ON1 := Lib.hid (On.new BE0.out hD0 hlow0 hb1)
  have KB1 := Lib.hid (show Own w w1 F0 w.heap.size 58 (bs key) from ⟨KB0.out.below hb1 KB0.out.lt, fun hF => by have := hlow0 _ hF; simp at this; omega, Nat.le_refl _⟩)
  clear hD0 hlow0 hb1 hbig
  go_wp2_with fail
  try simp only [Act.put]
  refine wp_region_mixT [(false, 0), (false, 1), (false, 2), (false, 4), (false, 5), (false, 6)] [3, 7] [8, 9] (.fork (.go 3 (.go 7 .stop)) (.go 7 (.go 3 .stop))) (by kernel_rfl) (by kernel_rfl) (fun w' => Below w1.heap.size w1 w')
    (fun f w' => ∃ pa pb, f 3 = .pointer (some ⟨pa, 0, none⟩) ∧ f 7 = .pointer (some ⟨pb, 0, none⟩) ∧ Blk w' pa 119 (penCells db key ba 0) ∧ Blk w' pb 119 (penCells db key bb 0) ∧ w1.heap.size ≤ pa ∧ w1.heap.size ≤ pb ∧ pa ≠ pb) (Below.refl _ _).drew ?_
  refine wpHead_late rfl (fun K hK => ⟨.pointer (some ⟨db, 0, none⟩), fun w' hC => ⟨rfl, rfl⟩, hK _ ?_⟩)
  clear hK K
  simp only [Act.put, List.getElem_toArray, List.getElem_cons_succ, List.getElem_cons_zero, List.setIfInBounds_toArray, List.set_cons_zero, List.set_cons_succ]
  refine wpHead_late rfl (fun K hK => ⟨.agg (bs key).toArray, fun w' hC => ⟨rfl, exec_getAll 58 (.tmp 5) rfl rfl (KB1.out.1.below hC KB1.out.1.lt) Try.underlying58 rfl info58 (by rw [bs_length, HK.out])⟩, hK _ ?_⟩)
  clear hK K
  simp only [Act.put, List.getElem_toArray, List.getElem_cons_succ, List.getElem_cons_zero, List.setIfInBounds_toArray, List.set_cons_zero, List.set_cons_succ]
  refine wpHead_late rfl (fun K hK => ⟨.int .u32 (ba : Int), fun w' hC => ⟨rfl, rfl⟩, hK _ ?_⟩)
  clear hK K
  simp only [Act.put, List.getElem_toArray, List.getElem_cons_succ, List.getElem_cons_zero, List.setIfInBounds_toArray, List.set_cons_zero, List.set_cons_succ]
  refine wpHead_late rfl (fun K hK => ⟨.pointer (some ⟨db, 0, none⟩), fun w' hC => ⟨rfl, rfl⟩, hK _ ?_⟩)
  clear hK K
  simp only [Act.put, List.getElem_toArray, List.getElem_cons_succ, List.getElem_cons_zero, List.setIfInBounds_toArray, List.set_cons_zero, List.set_cons_succ]
  refine wpHead_late rfl (fun K hK => ⟨.agg (bs key).toArray, fun w' hC => ⟨rfl, exec_getAll 58 (.tmp 5) rfl rfl (KB1.out.1.below hC KB1.out.1.lt) Try.underlying58 rfl info58 (by rw [bs_length, HK.out])⟩, hK _ ?_⟩)
  clear hK K
  simp only [Act.put, List.getElem_toArray, List.getElem_cons_succ, List.getElem_cons_zero, List.setIfInBounds_toArray, List.set_cons_zero, List.set_cons_succ]
  refine wpHead_late rfl (fun K hK => ⟨.int .u32 (bb : Int), fun w' hC => ⟨rfl, rfl⟩, hK _ ?_⟩)
  clear hK K
  simp only [Act.put, List.getElem_toArray, List.getElem_cons_succ, List.getElem_cons_zero, List.setIfInBounds_toArray, List.set_cons_zero, List.set_cons_succ]
  unfold wpHead wpMeet
  refine ⟨⟨?_, ?_⟩, ?_⟩
  · refine wpTr_call (f := 54) rfl rfl (by exact exec_enter (xl := [.tmp 32, .tmp 33, .tmp 34]) rfl rfl Try.func54 rfl rfl _) (pnew_calls db key HK.out ba hba _) ?_
    rintro e wA ⟨pa, rfl, hpa, hlpa, hbwA⟩
    have hA : Below w1.heap.size w1 wA := ⟨hbwA.os, hbwA.tape, hbwA.output, hbwA.size, hbwA.block⟩
    have hlpa : w1.heap.size ≤ pa := hlpa
    refine ⟨_, rfl, hA, ?_⟩
    simp only [Act.put, List.getElem_toArray, List.getElem_cons_succ, List.getElem_cons_zero, List.setIfInBounds_toArray, List.set_cons_zero, List.set_cons_succ]
    refine wpTr_call (f := 54) rfl rfl (by exact exec_enter (xl := [.tmp 36, .tmp 37, .tmp 38]) rfl rfl Try.func54 rfl rfl _) (pnew_calls db key HK.out bb hbb _) ?_
    rintro e wB ⟨pb, rfl, hpb, hlpb, hbwB⟩
    have hB := hA.trans (hbwB.mono hA.size)
    refine ⟨_, rfl, hB, ?_⟩
    unfold wpTr
    have hpl := hpa.lt
    have hs := hA.size
    exact ⟨hB, (fun | 3 => .pointer (some ⟨pa, 0, none⟩) | 7 => .pointer (some ⟨pb, 0, none⟩) | _ => undef), rfl, pa, pb, rfl, rfl, hpa.below hbwB hpa.lt, hpb, hlpa, by omega, by omega⟩
  · refine wpTr_call (f := 54) rfl rfl (by exact exec_enter (xl := [.tmp 36, .tmp 37, .tmp 38]) rfl rfl Try.func54 rfl rfl _) (pnew_calls db key HK.out bb hbb _) ?_
    rintro e wA ⟨pb, rfl, hpb, hlpb, hbwA⟩
    have hA : Below w1.heap.size w1 wA := ⟨hbwA.os, hbwA.tape, hbwA.output, hbwA.size, hbwA.block⟩
    have hlpb : w1.heap.size ≤ pb := hlpb
    refine ⟨_, rfl, hA, ?_⟩
    simp only [Act.put, List.getElem_toArray, List.getElem_cons_succ, List.getElem_cons_zero, List.setIfInBounds_toArray, List.set_cons_zero, List.set_cons_succ]
    refine wpTr_call (f := 54) rfl rfl (by exact exec_enter (xl := [.tmp 32, .tmp 33, .tmp 34]) rfl rfl Try.func54 rfl rfl _) (pnew_calls db key HK.out ba hba _) ?_
    rintro e wB ⟨pa, rfl, hpa, hlpa, hbwB⟩
    have hB := hA.trans (hbwB.mono hA.size)
    refine ⟨_, rfl, hB, ?_⟩
    unfold wpTr
    have hpl := hpb.lt
    have hs := hA.size
    exact ⟨hB, (fun | 3 => .pointer (some ⟨pa, 0, none⟩) | 7 => .pointer (some ⟨pb, 0, none⟩) | _ => undef), rfl, pa, pb, rfl, rfl, hpa, hpb.below hbwB hpb.lt, by omega, hlpb, by omega⟩
  intro f w2 hb2 hR
  obtain ⟨pa, pb, ef3, ef7, hpa, hpb, hla, hlb, hne⟩ := hR
  have hlz := ON1.out.disk.lies
  have hs0 := ON1.out.below.size
  have ON2 := Lib.hid (ON1.out.under hb2)
  have KB2 := Lib.hid (KB1.out.under hb2)
  have PA2 := Lib.hid (show Own w w2 F0 pa 119 (penCells db key ba 0) from ⟨hpa, fun hF => by have := hlz _ hF; omega, by omega⟩)
  have PB2 := Lib.hid (show Own w w2 F0 pb 119 (penCells db key bb 0) from ⟨hpb, fun hF => by have := hlz _ hF; omega, by omega⟩)
  have hkp : w.heap.size ≠ pa := by have := KB1.out.1.lt; omega
  clear hb2 hpa hpb hlz hla hlb
  unfold wpRest
  simp only [puts, Act.put, List.map_nil, List.map_cons, List.getElem?_toArray, List.getElem?_cons_succ, List.getElem?_cons_zero, List.setIfInBounds_toArray, List.set_cons_zero, List.set_cons_succ, ef3, ef7]
  iterate 2
    refine wpHead_early rfl (fun K hK => ?_)
    go_simp
    refine hK _ ?_
    clear hK K
  unfold wpHead
  clear ef3 ef7
  go_wp2_with fail
  obtain ⟨s, hs⟩ : ∃ s, s = sealB key ba 0 l3 50 := ⟨_, rfl⟩
  have hsl : s.length = 50 := by rw [hs]; exact sealB_length _ _ _ _ _ (by rw [H3.out]; omega)
  have hop : openB key s = some (l3, ba, 0) := by rw [hs]; exact open_seal key ba 0 l3 50 hba (by decide) (by rw [H3.out]; omega) (by decide)
  have Q := Lib.hid (qs (s := s) (l := l4) hsl)
  have HOP := Lib.hid hop
  have HS := Lib.hid hs
  clear hsl hop hs
  refine (pwrite_calls (S := Dev.fresh 2 50) PA2.out.1 HK.out hba (by decide) ON2.out.disk PA2.out.2.1 ⟨rfl, by show (-1 : Int) ≠ 0; decide⟩ (by decide) (by decide) 0 A3 n3 c3 l3 H3.out (R3.out.below ON2.out.below)).mono ?_
  rintro e w3 (⟨_, rfl, hpb, F3, hC⟩ | ⟨hno, _⟩)
  rotate_left
  · exfalso
    have hno : (50 : Nat) < n3 + 22 := hno
    omega
  have hC : CallsP pa db (q1 s) F0 w2 w3 F3 := by rw [HS.out]; exact hC
  have ON3 := Lib.hid (ON2.out.callP hC PA2.out.2.2)
  have PB3 := Lib.hid (PB2.out.callP hC (Ne.symm hne))
  have KB3 := Lib.hid (KB2.out.callP hC hkp)
  clear hC hpb
  go_wp2_with fail
  refine (pread_calls (S := q1 s) PB3.out.1 HK.out ON3.out.disk PB3.out.2.1 Q.out.l1 Q.out.t1 0).mono ?_
  rintro e w4 ⟨F4, hC, hgot⟩
  rw [Q.out.b1, HOP.out] at hgot
  obtain ⟨v4, rfl, hown4, hF4⟩ := hgot
  obtain ⟨A5, c5, rfl⟩ := own_slice hown4
  have ON4 := Lib.hid (show On w w4 db (q2 s) F4 from ON3.out.call hC)
  have PB4 := Lib.hid (PB3.out.call hC)
  have KB4 := Lib.hid (KB3.out.call hC)
  have X4 := Lib.hid (show Row w4 F4 (.slice A5 l3.length c5) l3.length l3 from ⟨⟨_, hown4⟩, hF4⟩)
  clear hC hown4 hF4
  go_wp2_with fail
  refine (write_any (S := q2 s) ON4.out.disk Q.out.l2 Q.out.t2 Q.out.o2 1 A4 n4 c4 l4 H4.out (R4.out.below ON4.out.below) (ON4.out.rdF R4.out)).mono ?_
  rintro e w5 ⟨rfl, F5, hC⟩
  have ON5 := Lib.hid (show On w w5 db (q3 s l4) F5 from ON4.out.call hC)
  have PB5 := Lib.hid (PB4.out.call hC)
  have KB5 := Lib.hid (KB4.out.call hC)
  have X5 := Lib.hid (X4.out.call hC)
  clear hC
  go_wp2_with fail
  refine (pread_calls (S := q3 s l4) PB5.out.1 HK.out ON5.out.disk PB5.out.2.1 Q.out.l3 Q.out.t3 1).mono ?_
  rintro e w6 ⟨F6, hC, hgot⟩
  rw [Q.out.b3] at hgot
  have ON6 := Lib.hid (show On w w6 db (q4 s l4) F6 from ON5.out.call hC)
  have KB6 := Lib.hid (KB5.out.call hC)
  have X6 := Lib.hid (X5.out.call hC)
  obtain ⟨t6, A6, n6, c6, ok6, rfl, hn6, hY6, hok⟩ := hgot.told
  have hY6 : Row w6 F6 (.slice A6 n6 c6) n6 t6 := hY6
  clear hC hgot
  have Y6 := Lib.hid hY6
  have HN6 := Lib.hid hn6
  have HOK := Lib.hid hok
  clear hY6 hok hn6
  go_wp2_with fail
  refine (flush_calls (S := q4 s l4) ON6.out.disk Q.out.l4 Q.out.t4 Q.out.o4).mono ?_
  rintro e w7 ⟨rfl, F7, hC⟩
  have ON7 := Lib.hid (show On w w7 db (q5 s l4) F7 from ON6.out.call hC)
  have KB7 := Lib.hid (KB6.out.call hC)
  have X7 := Lib.hid (X6.out.call hC)
  have Y7 := Lib.hid (Y6.out.call hC)
  clear hC
  go_wp2_with fail
  try simp only [Act.put]
  refine wp_region_mixR [(false, 0), (true, 1)] [2, 3] [4, 5, 6, 7, 8, 9, 10, 11, 12] (by kernel_rfl) (by kernel_rfl) (fun w' => Blk w' w.heap.size 58 (bs key)) KB7.out.1 ?_
  refine wpHead_late rfl (fun K hK => ⟨.agg (bs key).toArray, fun w' hC => ⟨rfl, exec_getAll 58 (.tmp 5) rfl rfl hC Try.underlying58 rfl info58 (by rw [bs_length, HK.out])⟩, hK _ ?_⟩)
  clear hK K
  simp only [Act.put, List.getElem_toArray, List.getElem_cons_succ, List.getElem_cons_zero, List.setIfInBounds_toArray, List.set_cons_zero, List.set_cons_succ]
  refine wpHead_early rfl (fun K hK => ?_)
  go_simp
  refine hK _ ?_
  clear hK K
  unfold wpHead
  have hd7 : DiskAt w7.drew db (q5 s l4) F7 := ON7.out.drew.disk
  refine wpStores_call (f := 29) rfl rfl (by exact exec_enter (xl := [.tmp 73, .const (.int .i64 1)]) rfl rfl Try.func29 rfl rfl _) (stable_calls (S := q5 s l4) hd7 1) ?_
  rintro e w8 ⟨v8, rfl, hgot, hC⟩
  obtain ⟨g8, rfl, hA8, hl8, -⟩ := hgot.yes (n' := 50) (l' := fit 50 l4) Q.out.h5 ON7.out.drew.below Q.out.z5 Q.out.b5
  have ON8 := Lib.hid (show On w w8 db (q5 s l4) F7 from ON7.out.drew.call hC)
  have KB8 := Lib.hid (KB7.out.drew.call hC)
  have X8 := Lib.hid ((show Row w7.drew F7 (.slice A5 l3.length c5) l3.length l3 from X7.out).call hC)
  have Y8 := Lib.hid ((show Row w7.drew F7 (.slice A6 n6 c6) n6 t6 from Y7.out).call hC)
  have A8 := Lib.hid hA8
  have HL8 := Lib.hid hl8
  refine ⟨_, rfl, KB8.out.1, ?_⟩
  clear hC hgot hA8 hd7 hl8
  simp only [Act.put, List.getElem_toArray, List.getElem_cons_succ, List.getElem_cons_zero, List.setIfInBounds_toArray, List.set_cons_zero, List.set_cons_succ]
  refine wpStores_call (f := 35) rfl rfl (by exact exec_enter (xl := [.tmp 72, .tmp 74]) rfl rfl Try.func35 rfl rfl _) (ropen_calls key HK.out (fit 50 l4) _ 50 50 HL8.out (by decide) (by decide) w8 A8.out.1.rdAll) ?_
  intro e w9 hO
  obtain ⟨t9, A9, n9, c9, ok9, bo, qo, rfl, hn9, hrd9, hb9, htold⟩ := hO.told
  obtain ⟨rfl, rfl⟩ := HOK.out.same htold
  have ON9 := Lib.hid (ON8.out.under hb9)
  have X9 := Lib.hid (X8.out.under hb9)
  have Y9 := Lib.hid (Y8.out.under hb9)
  have RD9 := Lib.hid hrd9
  have HN9 := Lib.hid hn9
  refine ⟨_, rfl, KB8.out.1.below hb9 KB8.out.1.lt, ?_⟩
  clear hO hrd9 hb9 htold hn9
  simp only [Act.put, List.getElem_toArray, List.getElem_cons_succ, List.getElem_cons_zero, List.setIfInBounds_toArray, List.set_cons_zero, List.set_cons_succ]
  unfold wpStores wpRest
  simp only [List.map_cons, List.map_nil]
  iterate 9
    refine wpHead_early rfl (fun K hK => ?_)
    go_simp
    refine hK _ ?_
    clear hK K
  unfold wpHead
  go_wp2_with fail
  refine (same_at A5 A3 l3.length n3 c5 c3 l3 l3 w9 rfl H3.out X9.out.rd (R3.out.below ON9.out.below)).mono ?_
  rintro e wx ⟨he, rfl⟩
  rw [beq_self_eq_true] at he
  subst he
  go_wp2_with fail
  refine (same_at A6 A9 n6 n9 c6 c9 t6 t6 w9 HN6.out HN9.out Y9.out.rd RD9.out).mono ?_
  rintro e wx ⟨he, rfl⟩
  rw [beq_self_eq_true] at he
  subst he
  go_wp2_with fail
  refine (awake9_calls w9).mono ?_
  rintro e wz ⟨rfl, hz⟩
  have HE := Lib.hid (ON9.out.under hz).below
  clear hz
  go_wp2_with fail
  go_ret
  exact ⟨rfl, HE.out⟩
end Go.Proofs.Ytbdnoiaglighhaa
