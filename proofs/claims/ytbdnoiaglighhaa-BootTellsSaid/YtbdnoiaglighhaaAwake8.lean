/- The walk of dumbwaiterlaw8.awake. No statement is proved here. -/
import Derived.Test.YtbdnoiaglighhaaBootL
namespace Go.Proofs.Ytbdnoiaglighhaa
set_option linter.unusedVariables false
set_option linter.unusedSimpArgs false
set_option linter.constructorNameAsVariable false
open Go.RowKit Go.Maps

section
variable {S : Dev}
theorem Dev.Bodies.more (h : S.Bodies) {T : Dev} {e : Ev} (ht : T.trace = S.trace ++ [e]) (he : ∀ l, e.body = some l → 0 < l.length ∧ l.length ≤ 60000) : T.Bodies := by
  intro d hd l hl
  rw [ht] at hd
  rcases List.mem_append.1 hd with hd | hd
  · exact h d hd l hl
  · obtain rfl := List.mem_singleton.1 hd; exact he l hl
theorem Dev.Bodies.read (h : S.Bodies) (x : Int) : (S.read x).Bodies := h.more (e := ⟨1, x, fit 12 (S.block S.now x), none⟩) rfl (fun l hl => by cases hl)
theorem Dev.Bodies.write (h : S.Bodies) (x : Int) (b : List UInt8) (h0 : 0 < S.size) (h1 : S.size ≤ 60000) : (S.write x b).Bodies := by
  refine h.more (e := ⟨2, x, fit 12 (fit S.size b), some (fit S.size b)⟩) ?_ (fun l hl => by cases hl; rw [fit_length]; exact ⟨h0, h1⟩)
  unfold Dev.write Dev.note Dev.tick
  simp only
  split <;> rfl
theorem Dev.Bodies.flush (h : S.Bodies) : S.flush.Bodies := h.more (e := ⟨3, 0, fit 12 [], none⟩) rfl (fun l hl => by cases hl)
theorem Dev.Bodies.seen (h : S.Bodies) (x : Int) : (S.seen x).Bodies := (h.read x).read (x + 1)
theorem Dev.Bodies.bumped (h : S.Bodies) (x : Int) (h0 : 0 < S.size) (h1 : S.size ≤ 60000) : (S.bumped x).Bodies := ((h.seen x).write _ _ h0 h1).flush
theorem Dev.Up.bumped (h : S.Up) (x : Int) : (S.bumped x).Up := ((h.seen x).write _ _).flush
theorem write_len (S : Dev) (x : Int) (b : List UInt8) : (S.write x b).size = S.size := by
  unfold Dev.write Dev.note Dev.tick
  simp only
  split <;> rfl
end
def r0 : Dev := Dev.fresh 4 30
def r1 : Dev := r0.bumped 1
def r2 : Dev := r1.bumped 1
def r3 : Dev := r2.write 1 (recB 4294967295)
def r4 : Dev := r3.seen 1
def r5 : Dev := r4.seen 1
theorem r_last : r0.last 1 = 0 ∧ r1.last 1 = 1 ∧ r3.last 1 = 4294967295 ∧ r4.last 1 = 4294967295 := by decide +kernel
theorem r_parse : parseB (recB 7) = some 7 := by decide +kernel
theorem r_len : r1.trace.length = 4 ∧ r2.trace.length = 8 ∧ r3.trace.length = 9 ∧ r4.trace.length = 11 ∧ r5.trace.length = 13 ∧ r1.loose.length = 0 ∧ r2.loose.length = 0 ∧ r3.loose.length = 1 := by decide +kernel
theorem r0_up : r0.Up := ⟨rfl, rfl⟩
theorem r1_up : r1.Up := r0_up.bumped 1
theorem r2_up : r2.Up := r1_up.bumped 1
theorem r3_up : r3.Up := r2_up.write 1 _
theorem r4_up : r4.Up := r3_up.seen 1
theorem r_size : r1.size = 30 ∧ r2.size = 30 ∧ r3.size = 30 := by decide +kernel
theorem r5_bodies : r5.Bodies := by
  have h0 : r0.Bodies := fun e he => by cases he
  have h1 : r1.Bodies := h0.bumped 1 (by decide) (by decide)
  have h2 : r2.Bodies := h1.bumped 1 (by rw [r_size.1]; decide) (by rw [r_size.1]; decide)
  have h3 : r3.Bodies := h2.write 1 _ (by rw [r_size.2.1]; decide) (by rw [r_size.2.1]; decide)
  exact (h3.seen 1).seen 1
set_option maxHeartbeats 1000000 in
set_option maxRecDepth 100000 in
theorem awake8_calls (w : World) : Calls Try.prog 44 #[] w fun e w' => e = .returned (.bool true) ∧ Below w.heap.size w w' := by
  go_enter Try.func44, Try.ntmps44
  go_wp2_with fail
  refine (new_calls 4 30 (by decide) (by decide) (by decide) w).mono ?_
  rintro e w1 ⟨db, rfl, F0, hD0, hlow0, hb1⟩
  have ON1 := Lib.hid (show On w w1 db r0 F0 from On.new (Below.refl _ w) hD0 hlow0 hb1)
  clear hD0 hlow0 hb1
  go_wp2_with fail
  refine (bump_calls ON1.out.disk r0_up (by decide) (by decide) 1 (by decide)).mono ?_
  rintro e w2 (⟨hl, _⟩ | ⟨_, rfl, F2, hC⟩)
  · rw [r_last.1] at hl; cases hl
  rw [r_last.1]
  have ON2 := Lib.hid (show On w w2 db r1 F2 from ON1.out.call hC)
  clear hC
  go_wp2_with fail
  refine (bump_calls ON2.out.disk r1_up (by rw [r_len.1]; decide) (by rw [r_len.2.2.2.2.2.1]; decide) 1 (by decide)).mono ?_
  rintro e w3 (⟨hl, _⟩ | ⟨_, rfl, F3, hC⟩)
  · rw [r_last.2.1] at hl; cases hl
  rw [r_last.2.1]
  have ON3 := Lib.hid (show On w w3 db r2 F3 from ON2.out.call hC)
  clear hC
  go_wp2_with fail
  refine (rec_at 7 7 rfl (by decide) w3).mono ?_
  rintro e w4 ⟨A4, c4, rfl, hown4, hb4⟩
  have ON4 := Lib.hid (ON3.out.under hb4)
  have hc4 : 24 ≤ c4 := (own_at hown4 (by decide)).choose_spec.2.1
  have R4 := Lib.hid (Rd.of_own hown4)
  clear hown4 hb4
  go_wp2_with fail
  refine (parse_calls A4 24 c4 (recB 7) w4 (recB_length 7) hc4 (by decide) R4.out).mono ?_
  rintro e w5 ⟨hp, hb5⟩
  unfold ParsedIs at hp
  rw [r_parse] at hp
  have hp : e = .returned (.tuple #[.int .u32 7, .bool true]) := hp
  subst hp
  have ON5 := Lib.hid (ON4.out.under hb5)
  clear hb5
  go_wp2_with fail
  refine (rec_at 4294967295 4294967295 rfl (by decide) w5).mono ?_
  rintro e w6 ⟨A6, c6, rfl, hown6, hb6⟩
  have hlies := ON5.out.disk.lies
  have ON6 := Lib.hid (ON5.out.under hb6)
  have R6 := Lib.hid (Rd.of_own hown6)
  have hAF : ∀ a, A6 = some a → ¬ F3 a.block := fun a ha hF => by
    have h1 := hlies _ hF
    rcases hown6.2 with ⟨hv, _⟩ | ⟨g, cap, cur, hv, hg, _⟩
    · injection hv with hv; rw [ha] at hv; cases hv
    · injection hv with hv; rw [ha] at hv; cases hv
      have : w5.heap.size ≤ g := hg
      have h1 : g < w5.heap.size := h1
      omega
  have HAF := Lib.hid hAF
  clear hown6 hb6 hlies hAF
  go_wp2_with fail
  refine (write_calls ON6.out.disk r2_up.live (by rw [r_len.2.1]; decide) (by rw [r_len.2.2.2.2.2.2.1]; decide) 1 A6 24 c6 (recB 4294967295) (recB_length _) R6.out HAF.out).mono ?_
  rintro e w7 ⟨rfl, F7, hC⟩
  have ON7 := Lib.hid (show On w w7 db r3 F7 from ON6.out.call hC)
  clear hC
  go_wp2_with fail
  refine (bump_calls ON7.out.disk r3_up (by rw [r_len.2.2.1]; decide) (by rw [r_len.2.2.2.2.2.2.2]; decide) 1 (by decide)).mono ?_
  rintro e w8 (⟨_, rfl, F8, hC⟩ | ⟨hl, _⟩)
  rotate_left
  · rw [r_last.2.2.1] at hl; exact absurd hl (by decide)
  have ON8 := Lib.hid (show On w w8 db r4 F8 from ON7.out.call hC)
  clear hC
  go_wp2_with fail
  refine (last_calls ON8.out.disk r4_up (by rw [r_len.2.2.2.1]; decide) 1 (by decide)).mono ?_
  rintro e w9 ⟨rfl, F9, hC⟩
  rw [r_last.2.2.2]
  have ON9 := Lib.hid (show On w w9 db r5 F9 from ON8.out.call hC)
  clear hC
  go_wp2_with fail
  refine (trace_calls ON9.out.disk (by rw [r_len.2.2.2.2.1]; decide) r5_bodies).mono ?_
  rintro e wt ⟨vt, rfl, htr, hbt⟩
  obtain ⟨⟨cs, _, hown⟩, _⟩ := htr
  obtain ⟨At, ct, rfl⟩ := own_slice hown
  rw [r_len.2.2.2.2.1]
  have HE := Lib.hid (ON9.out.under hbt).below
  clear hown hbt
  go_wp2_with fail
  go_ret
  exact ⟨rfl, HE.out⟩
end Go.Proofs.Ytbdnoiaglighhaa
