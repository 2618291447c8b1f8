/- The walks of package boot's Last and Bump on a device whose power stays. No statement is proved here. -/
import Derived.Test.YtbdnoiaglighhaaBootQ
namespace Go.Proofs.Ytbdnoiaglighhaa
set_option linter.unusedVariables false
set_option linter.unusedSimpArgs false
set_option linter.constructorNameAsVariable false
open Go.RowKit Go.Maps

/-- The number that stands in a block, or nought. -/
def numB (b : List UInt8) : Nat := (parseB b).getD 0
theorem parseB_lt {b : List UInt8} {n : Nat} (h : parseB b = some n) : n < 4294967296 := by
  unfold parseB at h
  split at h
  · cases h
  · split at h
    · cases h
    · split at h
      · cases h; exact num_lt b
      · cases h
theorem numB_lt (b : List UInt8) : numB b < 4294967296 := by
  unfold numB
  cases h : parseB b with
  | none => decide
  | some n => exact parseB_lt h
theorem ParsedIs.num {b : List UInt8} {e : Ending} (h : ParsedIs b e) : ∃ ok : Bool, e = .returned (.tuple #[.int .u32 (numB b : Int), .bool ok]) := by
  unfold ParsedIs at h
  unfold numB
  cases hp : parseB b with
  | none => rw [hp] at h; exact ⟨false, h⟩
  | some n => rw [hp] at h; exact ⟨true, h⟩
section
variable {w0 w w' : World} {F F' : Nat → Prop} {db : Nat} {S S' : Dev}
theorem Got.into {hs : Prop} {v : Value} {l : List UInt8} {n : Nat} (h : Got F' w w' hs v l n) (hn : n ≤ 60000) : ∃ A m c, v = .slice A m c ∧ l.length = m ∧ m ≤ c ∧ m ≤ 60000 ∧ Rd w' A (bs l) := by
  rcases h with ⟨_, rfl, rfl⟩ | ⟨_, g, rfl, hb, hl, hg, hF⟩
  · exact ⟨none, 0, 0, rfl, rfl, Nat.le_refl _, by omega, fun h => absurd h (by simp)⟩
  · exact ⟨_, n, n, rfl, hl, Nat.le_refl _, hn, hb.rdAll⟩
/-- The power stays. -/
structure Dev.Up (S : Dev) : Prop where
  after : S.after = -1
  off : S.off = false
theorem Dev.Up.live (h : S.Up) : S.live := ⟨h.off, by rw [h.after]; decide⟩
theorem Dev.Up.tick (h : S.Up) : S.tick = S := by unfold Dev.tick; rw [h.after]; cases S; obtain ⟨h1, _⟩ := h; subst h1; rfl
theorem Dev.Up.read (h : S.Up) (x : Int) : (S.read x).Up := by unfold Dev.read; rw [h.tick]; exact ⟨h.after, h.off⟩
theorem Dev.Up.write (h : S.Up) (x : Int) (b : List UInt8) : (S.write x b).Up := by unfold Dev.write; rw [h.tick]; simp only; split <;> exact ⟨h.after, h.off⟩
theorem Dev.Up.flush (h : S.Up) : S.flush.Up := by unfold Dev.flush; rw [h.tick]; exact ⟨h.after, h.off⟩
theorem read_now (S : Dev) (x : Int) : (S.read x).now = S.now ∧ (S.read x).blocks = S.blocks ∧ (S.read x).size = S.size ∧ (S.read x).trace.length = S.trace.length + 1 ∧ (S.read x).loose = S.loose ∧ (S.read x).stable = S.stable := by
  unfold Dev.read Dev.note Dev.tick; simp
theorem read_block (S : Dev) (x y : Int) : (S.read x).block (S.read x).now y = S.block S.now y := rfl
/-- The greatest number that stands there. -/
def Dev.last (S : Dev) (x : Int) : Nat := max (numB (S.block S.now x)) (numB (S.block S.now (x + 1)))
def Dev.seen (S : Dev) (x : Int) : Dev := (S.read x).read (x + 1)
set_option maxHeartbeats 1000000 in
set_option maxRecDepth 100000 in
theorem last_calls (h : DiskAt w db S F) (hu : S.Up) (htr : S.trace.length + 1 ≤ 1000000) (x : Int) (hx : -9223372036854775808 ≤ x ∧ x < 9223372036854775807) : Calls Try.prog 43 #[.pointer (some ⟨db, 0, none⟩), .int .i64 x] w fun e w' =>
    e = .returned (.int .u32 (S.last x : Int)) ∧ ∃ F', Calls1 db (S.seen x) F w w' F' := by
  have hsz := h.ok.size
  have e1 : wrap64 (x + 1) = x + 1 := IntWalk.wrap64_in _ ⟨by omega, by omega⟩
  have HD := Lib.hid h
  have HU := Lib.hid hu
  have HT := Lib.hid htr
  clear h hu htr
  go_enter Try.func43, Try.ntmps43
  go_wp2_with fail
  refine (read_calls HD.out HU.out.live (by have := HT.out; omega) x).mono ?_
  rintro e w1 ⟨v1, F1, rfl, hgot, hC⟩
  obtain ⟨A1, m1, c1, rfl, hl1, hmc1, hm1, hr1⟩ := hgot.into hsz
  have HC1 := Lib.hid hC
  clear hC hgot
  go_wp2_with fail
  refine (parse_calls A1 m1 c1 _ w1 hl1 hmc1 hm1 hr1).mono ?_
  rintro e w2 ⟨hp, hb2⟩
  obtain ⟨ok, rfl⟩ := hp.num
  have HC2 := Lib.hid (HC1.out.trans (Calls1.below HC1.out.1 hb2))
  clear hp hb2 hl1 hmc1 hr1
  obtain ⟨a, ha⟩ : ∃ a, a = numB (S.block S.now x) := ⟨_, rfl⟩
  rw [← ha]
  have HA := Lib.hid ha
  clear ha
  go_wp2_with fail
  have hsz2 : (S.read x).size ≤ 60000 := by rw [(read_now S x).2.2.1]; exact hsz
  refine (read_calls HC2.out.1 (HU.out.read x).live (by rw [(read_now S x).2.2.2.1]; exact HT.out) (x + 1)).mono ?_
  rintro e w3 ⟨v3, F3, rfl, hgot, hC⟩
  obtain ⟨A3, m3, c3, rfl, hl3, hmc3, hm3, hr3⟩ := hgot.into hsz2
  have HC3 := Lib.hid (HC2.out.trans hC)
  rw [read_block] at hl3 hr3
  clear hC hgot
  go_wp2_with fail
  refine (parse_calls A3 m3 c3 _ w3 hl3 hmc3 hm3 hr3).mono ?_
  rintro e w4 ⟨hp, hb4⟩
  obtain ⟨ok3, rfl⟩ := hp.num
  have HC4 := Lib.hid (HC3.out.trans (Calls1.below HC3.out.1 hb4))
  clear hp hb4 hl3 hmc3 hr3
  obtain ⟨b, hb⟩ : ∃ b, b = numB (S.block S.now (x + 1)) := ⟨_, rfl⟩
  rw [← hb]
  have HB := Lib.hid hb
  clear hb
  go_wp2_with fail
  all_goals
    go_ret
    refine ⟨?_, F3, HC4.out⟩
    unfold Dev.last
    rw [← HA.out, ← HB.out]
    first
      | rw [show max a b = a by omega]; rfl
      | rw [show max a b = b by omega]; rfl
theorem wrote (S : Dev) (x : Int) (b : List UInt8) : (S.write x b).trace.length = S.trace.length + 1 ∧ (S.write x b).loose.length ≤ S.loose.length + 1 := by
  unfold Dev.write Dev.note Dev.tick
  simp only
  split <;> simp
theorem seen_len (S : Dev) (x : Int) : (S.seen x).trace.length = S.trace.length + 2 ∧ (S.seen x).loose = S.loose := by
  unfold Dev.seen
  exact ⟨by rw [(read_now _ _).2.2.2.1, (read_now _ _).2.2.2.1], by rw [(read_now _ _).2.2.2.2.1, (read_now _ _).2.2.2.2.1]⟩
/-- .. with one number more written. -/
def Dev.bumped (S : Dev) (x : Int) : Dev := ((S.seen x).write (x + 1 - (((S.last x + 1) % 2 : Nat) : Int)) (recB (S.last x + 1))).flush
theorem Dev.Up.seen (h : S.Up) (x : Int) : (S.seen x).Up := (h.read x).read (x + 1)
theorem last_lt (S : Dev) (x : Int) : S.last x < 4294967296 := by unfold Dev.last; have := numB_lt (S.block S.now x); have := numB_lt (S.block S.now (x + 1)); omega
set_option maxHeartbeats 1000000 in
set_option maxRecDepth 100000 in
theorem bump_calls (h : DiskAt w db S F) (hu : S.Up) (htr : S.trace.length + 4 ≤ 1000000) (hlo : S.loose.length + 1 ≤ 1000000) (x : Int) (hx : -9223372036854775808 < x ∧ x < 9223372036854775807) : Calls Try.prog 41 #[.pointer (some ⟨db, 0, none⟩), .int .i64 x] w fun e w' =>
    (S.last x = 4294967295 ∧ e = .returned (.tuple #[.int .u32 0, .int .i64 5]) ∧ ∃ F', Calls1 db (S.seen x) F w w' F') ∨
    (S.last x < 4294967295 ∧ e = .returned (.tuple #[.int .u32 ((S.last x + 1 : Nat) : Int), .int .i64 0]) ∧ ∃ F', Calls1 db (S.bumped x) F w w' F') := by
  have hll := last_lt S x
  have e1 : wrap64 (x + 1) = x + 1 := IntWalk.wrap64_in _ ⟨by omega, by omega⟩
  have HD := Lib.hid h
  have HU := Lib.hid hu
  have HT := Lib.hid htr
  have HLo := Lib.hid hlo
  clear h hu htr hlo
  go_enter Try.func41, Try.ntmps41
  go_wp2_with fail
  refine (last_calls HD.out HU.out (by have := HT.out; omega) x ⟨by omega, by omega⟩).mono ?_
  rintro e w1 ⟨rfl, F1, hC⟩
  have HC1 := Lib.hid hC
  clear hC
  obtain ⟨L, hL⟩ : ∃ L, L = S.last x := ⟨_, rfl⟩
  rw [← hL] at hll ⊢
  have HLL := Lib.hid hL
  clear hL
  by_cases hmax : L = 4294967295
  · subst hmax
    go_wp2_with fail
    go_ret2
    exact .inl ⟨HLL.out.symm, rfl, F1, HC1.out⟩
  have hmax' : ¬ (L : Int) = 4294967295 := by omega
  have e2 : IntKind.u32.wrap ((L : Int) + 1) = ((L + 1 : Nat) : Int) := by rw [IntKind.wrap_u32]; omega
  obtain ⟨r, hr⟩ : ∃ r, r = (L + 1) % 2 := ⟨_, rfl⟩
  have e3 : ((L : Int) + 1) % 2 = (r : Int) := by omega
  have hr2 : r < 2 := by omega
  have HRR := Lib.hid hr
  have e4 : wrap64 (x + 1 - (r : Int)) = x + 1 - (r : Int) := IntWalk.wrap64_in _ ⟨by omega, by omega⟩
  clear hr
  go_wp2_with fail
  refine (rec_at (L + 1) _ (by omega) (by omega) w1).mono ?_
  rintro e w2 ⟨A2, c2, rfl, hown2, hb2⟩
  have hlies := HC1.out.1.lies
  have HC2 := Lib.hid (HC1.out.trans (Calls1.below HC1.out.1 hb2))
  have R2 := Lib.hid (Rd.of_own hown2)
  have hAF : ∀ a, A2 = some a → 0 < (recB (L + 1)).length → ¬ F1 a.block := fun a ha _ hF => by
    have h1 := hlies _ hF
    rcases hown2.2 with ⟨hv, _⟩ | ⟨g, cap, cur, hv, hg, _⟩
    · injection hv with hv; rw [ha] at hv; cases hv
    · injection hv with hv; rw [ha] at hv; cases hv
      have : w1.heap.size ≤ g := hg
      have h1 : g < w1.heap.size := h1
      omega
  have HAF := Lib.hid hAF
  clear hb2 hown2 hlies hAF
  go_wp2_with fail
  refine (write_any HC2.out.1 (HU.out.seen x).live (by show ((S.read x).read (x + 1)).trace.length ≤ _; rw [(read_now _ _).2.2.2.1, (read_now _ _).2.2.2.1]; have := HT.out; omega) (by show ((S.read x).read (x + 1)).loose.length ≤ _; rw [(read_now _ _).2.2.2.2.1, (read_now _ _).2.2.2.2.1]; have := HLo.out; omega) (x + 1 - (r : Int)) A2 24 c2 (recB (L + 1)) (recB_length _) R2.out HAF.out).mono ?_
  rintro e w3 ⟨rfl, F3, hC⟩
  have HC3 := Lib.hid (HC2.out.trans hC)
  clear hC
  go_wp2_with fail
  refine (flush_calls HC3.out.1 ((HU.out.seen x).write _ _).live ?_ ?_).mono ?_
  · have := HT.out
    rw [(wrote _ _ _).1, (seen_len S x).1]
    omega
  · have := HLo.out
    have h := (wrote (S.seen x) (x + 1 - (r : Int)) (recB (L + 1))).2
    rw [(seen_len S x).2] at h
    omega
  rintro e w4 ⟨rfl, F4, hC⟩
  have HC4 := Lib.hid (HC3.out.trans hC)
  clear hC
  go_wp2_with fail
  go_ret2
  refine .inr ⟨by rw [← HLL.out]; omega, by rw [← HLL.out]; rfl, F4, ?_⟩
  have e : S.bumped x = ((S.seen x).write (x + 1 - (r : Int)) (recB (L + 1))).flush := by
    unfold Dev.bumped
    rw [← HLL.out, ← HRR.out]
  rw [e]
  exact HC4.out
end
end Go.Proofs.Ytbdnoiaglighhaa
