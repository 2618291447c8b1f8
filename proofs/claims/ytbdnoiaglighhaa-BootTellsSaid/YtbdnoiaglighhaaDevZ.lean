/- A device that a caller made, beside what else the caller has. No statement is proved here. -/
import Derived.Test.YtbdnoiaglighhaaDevY
namespace Go.Proofs.Ytbdnoiaglighhaa
set_option linter.unusedVariables false
set_option linter.unusedSimpArgs false
open Go.RowKit Go.Maps

section
variable {w0 w w' : World} {F F' : Nat → Prop} {db g : Nat} {S S' : Dev} {t : TypeId} {cs : List Value}
/-- A device that was made since w0. -/
structure On (w0 w : World) (db : Nat) (S : Dev) (F : Nat → Prop) : Prop where
  disk : DiskAt w db S F
  low : ∀ g, F g → w0.heap.size ≤ g
  below : Below w0.heap.size w0 w
theorem On.call (h : On w0 w db S F) (k : Calls1 db S' F w w' F') : On w0 w' db S' F' :=
  ⟨k.1, fun g hg => (k.2.2.1 g hg).elim (h.low g) (fun hs => Nat.le_trans h.below.size hs), h.below.trans (k.2.2.2.below h.low h.below.size)⟩
theorem On.under (h : On w0 w db S F) (k : Below w.heap.size w w') : On w0 w' db S F := ⟨h.disk.same (.below h.disk.lies k), h.low, h.below.trans (k.mono h.below.size)⟩
theorem On.alloc (h : On w0 w db S F) (o : Obj) : On w0 (w.alloc o) db S F := h.under ((Below.refl _ _).alloc (Nat.le_refl _) o)
theorem On.drew (h : On w0 w db S F) : On w0 w.drew db S F := h.under (Below.refl _ w).drew
theorem On.grown (h : On w0 w db S F) (k : w.grownBy w' (some g)) (hF : ¬ F g) (h0 : w0.heap.size ≤ g) : On w0 w' db S F :=
  ⟨h.disk.same (.grown h.disk.lies k (fun j e => by cases e; exact hF)), h.low, h.below.grown k h.below.size (fun j e => by cases e; exact h0)⟩
theorem On.setCell (h : On w0 w db S F) {p : Addr} (hF : ¬ F p.block) (h0 : w0.heap.size ≤ p.block) (u : Value) : On w0 (w.setCell p u) db S F :=
  ⟨h.disk.same ⟨by simp, fun g hg => Below.heap_setCell w p u g (fun e => hF (e ▸ hg))⟩, h.low, h.below.setCell h0 u⟩
theorem On.of (hD : DiskAt w db S F) (hlow : ∀ g, F g → w0.heap.size ≤ g) (hb : Below w0.heap.size w0 w) : On w0 w db S F := ⟨hD, hlow, hb⟩
/-- A device made by a call at w. -/
theorem On.new (h0 : Below w0.heap.size w0 w) (hD : DiskAt w' db S F) (hlow : ∀ g, F g → w.heap.size ≤ g) (hb : Below w.heap.size w w') : On w0 w' db S F := ⟨hD, fun g hg => Nat.le_trans h0.size (hlow g hg), h0.trans (hb.mono h0.size)⟩

/-- A block that is none of the device's. -/
def Own (w0 w : World) (F : Nat → Prop) (g : Nat) (t : TypeId) (cs : List Value) : Prop := Blk w g t cs ∧ ¬ F g ∧ w0.heap.size ≤ g
theorem Own.call (h : Own w0 w F g t cs) (k : Calls1 db S' F w w' F') : Own w0 w' F' g t cs := ⟨k.blk h.1 h.2.1, k.out h.2.1 h.1.lt, h.2.2⟩
theorem Own.under (h : Own w0 w F g t cs) (k : Below w.heap.size w w') : Own w0 w' F g t cs := ⟨h.1.below k h.1.lt, h.2⟩
theorem Own.alloc (h : Own w0 w F g t cs) (o : Obj) : Own w0 (w.alloc o) F g t cs := ⟨h.1.alloc o, h.2⟩
theorem Own.drew (h : Own w0 w F g t cs) : Own w0 w.drew F g t cs := h
theorem Own.grown {b : Nat} (h : Own w0 w F g t cs) (k : w.grownBy w' (some b)) (hne : g ≠ b) : Own w0 w' F g t cs := ⟨h.1.grown k (fun e => hne (Option.some.inj e)), h.2⟩
theorem Own.new (h : On w0 w db S F) (t : TypeId) (cs : List Value) : Own w0 (w.alloc (.cells cs.toArray t)) F w.heap.size t cs := ⟨.new w t cs, fun hF => Nat.lt_irrefl _ (h.disk.lies _ hF), h.below.size⟩
theorem Own.far (h : Own w0 w F g t cs) {p : Addr} (hp : g ≠ p.block) (u : Value) : Own w0 (w.setCell p u) F g t cs := ⟨h.1.far hp u, h.2⟩
theorem Own.set_ (h : Own w0 w F g t cs) (i : Nat) (u : Value) : Own w0 (w.setCell ⟨g, i, none⟩ u) F g t (cs.set i u) := ⟨h.1.set_ i u, h.2⟩
theorem Got.yes {hs : Prop} {v : Value} {l l' : List UInt8} {n n' : Nat} (h : Got F' w w' hs v l n) (hx : hs) (hw : Below w0.heap.size w0 w) (hn : n = n') (hl : l = l') : ∃ g, v = .slice (some ⟨g, 0, none⟩) n' n' ∧ Own w0 w' F' g 5 (bs l') ∧ l'.length = n' ∧ w.heap.size ≤ g := by
  subst hn hl
  rcases h with ⟨h1, _⟩ | ⟨_, g, hv, hb, hl, hg, hF⟩
  · exact absurd hx h1
  · exact ⟨g, hv, ⟨hb, hF, Nat.le_trans hw.size hg⟩, hl, hg⟩
theorem Got.no {hs : Prop} {v : Value} {l : List UInt8} {n : Nat} (h : Got F' w w' hs v l n) (hx : ¬ hs) : v = .slice none 0 0 ∧ l = [] := by
  rcases h with ⟨_, h2⟩ | ⟨h1, _⟩
  · exact h2
  · exact absurd h1 hx

/-- A trace that was handed out: the caller's own. -/
def Shown (w0 w : World) (F : Nat → Prop) (v : Value) (xs : List Ev) : Prop := ∃ G : Nat → Prop, RecsIs w G 50 15 v (EvIs w G) xs ∧ Lies G w ∧ ∀ g, G g → ¬ F g ∧ w0.heap.size ≤ g
theorem EvIs.same {G : Nat → Prop} {e : Ev} {c : List Value} (h : EvIs w G e c) (hs : Same G w w') : EvIs w' G e c := h.but (b := w.heap.size) (.of hs _) (.new (Nat.le_refl _) _)
theorem RecsIs.same {G : Nat → Prop} {v : Value} {xs : List Ev} (h : RecsIs w G 50 15 v (EvIs w G) xs) (hs : Same G w w') : RecsIs w' G 50 15 v (EvIs w' G) xs := h.but (b := w.heap.size) (fun _ _ he => he.same hs) (.of hs _) (.new (Nat.le_refl _) _)
theorem Shown.of {v : Value} {xs : List Ev} (h : RecsIs w' (fun g => w.heap.size ≤ g) 50 15 v (EvIs w' (fun g => w.heap.size ≤ g)) xs) (hl : Lies F w) (hw : Below w0.heap.size w0 w) : Shown w0 w' F v xs := by
  obtain ⟨⟨cs, ha, ho⟩, hF⟩ := h
  refine ⟨fun g => w.heap.size ≤ g ∧ g < w'.heap.size, ⟨⟨cs, ha.imp fun e c he => ?_, ho⟩, fun g hg => ⟨hF g hg, (ho.lt g hg).2⟩⟩, fun g hg => hg.2, fun g hg => ⟨fun hk => by have := hl g hk; omega, Nat.le_trans hw.size hg.1⟩⟩
  obtain ⟨a1, bv, a2, a3⟩ := he
  refine ⟨a1, bv, a2, ?_⟩
  cases hx : e.body with
  | none => simpa [hx] using a3
  | some l =>
    simp only [hx] at a3 ⊢
    obtain ⟨g, c, rfl, hg, hk⟩ := a3
    exact ⟨g, c, rfl, hg, hk, (hg.lt g rfl).2⟩
theorem Shown.call {v : Value} {xs : List Ev} (h : Shown w0 w F v xs) (k : Calls1 db S' F w w' F') : Shown w0 w' F' v xs := by
  obtain ⟨G, hr, hl, hG⟩ := h
  exact ⟨G, hr.same ⟨k.2.2.2.size, fun g hg => k.2.2.2.block g (hl g hg) (hG g hg).1⟩, hl.mono k.2.2.2.size, fun g hg => ⟨k.out (hG g hg).1 (hl g hg), (hG g hg).2⟩⟩
theorem Shown.under {v : Value} {xs : List Ev} (h : Shown w0 w F v xs) (k : Below w.heap.size w w') : Shown w0 w' F v xs := by
  obtain ⟨G, hr, hl, hG⟩ := h
  exact ⟨G, hr.same ⟨k.size, fun g hg => k.block g (hl g hg)⟩, hl.mono k.size, hG⟩
/-- What stands in a row of events. -/
structure EvCells (w : World) (g o : Nat) (e : Ev) : Prop where
  kind : w.cell? ⟨g, o, none⟩ = some (.int .i64 e.kind)
  place : w.cell? ⟨g, o + 1, none⟩ = some (.int .i64 e.place)
  head : ∀ (j : Nat) (hj : j < e.head.length), w.cell? ⟨g, o + (2 + j), none⟩ = some (byt e.head[j])
  hlen : e.head.length = 12
theorem Shown.at_ {v : Value} {xs : List Ev} (h : Shown w0 w F v xs) {i : Nat} {e : Ev} (hi : xs[i]? = some e) : ∃ g c, v = .slice (some ⟨g, 0, none⟩) xs.length c ∧ ¬ F g ∧ w0.heap.size ≤ g ∧ g < w.heap.size ∧ (∀ j, w.frozen? ⟨g, j, none⟩ = false) ∧ EvCells w g (i * 15) e ∧
    Rd w (some ⟨g, i * 15 + 2, none⟩) (bs e.head) ∧ ∃ bv, w.cell? ⟨g, i * 15 + 14, none⟩ = some bv ∧ match e.body with | none => bv = .slice none 0 0 | some l => ∃ k cap, bv = .slice (some ⟨k, 0, none⟩) l.length cap ∧ l.length ≤ cap ∧ Rd w (some ⟨k, 0, none⟩) (bs l) ∧ ¬ F k ∧ w0.heap.size ≤ k ∧ k < w.heap.size ∧ k ≠ g ∧ ∀ j, w.frozen? ⟨k, j, none⟩ = false := by
  obtain ⟨G, ⟨⟨cs, ha, ho⟩, hF⟩, hl, hG⟩ := h
  have hil : i < xs.length := (List.getElem?_eq_some_iff.1 hi).1
  obtain ⟨c, hc, he⟩ := ha.get i hil
  have hei : xs[i] = e := (List.getElem?_eq_some_iff.1 hi).2
  rw [hei] at he
  obtain ⟨g, cap, rfl, hrd⟩ := rec_rd ho (ev_len ha) (by decide) (k := i) (by rw [← ha.len]; exact hil) ha.len.symm
  rw [List.getD_eq_getElem?_getD, hc, Option.getD_some] at hrd
  obtain ⟨hlen, bv, rfl, hbv⟩ := he
  have hbl : (bs e.head).length = 12 := by rw [bs_length, hlen]
  have hcell : ∀ (j : Nat) (u : Value), (Value.int .i64 e.kind :: .int .i64 e.place :: (bs e.head ++ [bv]))[j]? = some u → w.cell? ⟨g, i * 15 + j, none⟩ = some u := fun j u hu => by
    obtain ⟨hj, hu'⟩ := List.getElem?_eq_some_iff.1 hu
    obtain ⟨b, o, hA, hcc⟩ := hrd.cell hj
    injection hA with hA
    injection hA with h1 h2
    subst h1 h2
    rw [hcc, hu']
  have hgG := hF g rfl
  refine ⟨g, cap, rfl, (hG g hgG).1, (hG g hgG).2, hl g hgG, ?_, ⟨hcell 0 _ rfl, hcell 1 _ rfl, fun j hj => hcell (2 + j) _ ?_, hlen⟩, ?_, bv, hcell 14 bv ?_, ?_⟩
  · intro j
    rcases ho.2 with ⟨h1, _⟩ | ⟨g', cap', cur, hv, _, hh, _⟩
    · cases h1
    · injection hv with hv _ _
      injection hv with hv
      injection hv with h1 _ _
      subst h1
      simp [World.frozen?, hh]
  · rw [Nat.add_comm 2 j]
    simp only [List.getElem?_cons_succ]
    rw [List.getElem?_append_left (by simpa using hj)]
    simp [List.getElem?_eq_getElem hj]
  · intro h0
    obtain ⟨b, o, hA, cells, tt, fr, hb, hcc⟩ := hrd (by simp)
    injection hA with hA
    injection hA with h1 h2
    subst h1 h2
    refine ⟨g, i * 15 + 2, rfl, cells, tt, fr, hb, fun j hj => ?_⟩
    have := hcc (j + 2) (by simp; rw [bs_length] at hj; omega)
    rw [show i * 15 + 2 + j = i * 15 + (j + 2) by omega, this]
    simp only [List.getElem?_cons_succ]
    rw [List.getElem?_append_left hj]
  · simp only [List.getElem?_cons_succ]
    rw [List.getElem?_append_right (by omega), hbl]
    rfl
  · cases hx : e.body with
    | none => simpa [hx] using hbv
    | some l =>
      simp only [hx] at hbv ⊢
      obtain ⟨k, c2, rfl, hok, hGk⟩ := hbv
      refine ⟨k, c2, rfl, ?_, .of_own hok, (hG k hGk).1, (hG k hGk).2, hl k hGk, ?_, ?_⟩
      · rcases hok.2 with ⟨h1, _⟩ | ⟨g', cap', cur, hv, _, hh, hnc, _⟩
        · cases h1
        · injection hv with _ _ hv; subst hv; exact hnc
      · rintro rfl
        exact own_ne hok (own_norow ho rfl (by decide)) rfl
      · intro j
        rcases hok.2 with ⟨h1, _⟩ | ⟨g', cap', cur, hv, _, hh, _⟩
        · cases h1
        · injection hv with hv _ _
          injection hv with hv
          injection hv with h1 _ _
          subst h1
          simp [World.frozen?, hh]
end
end Go.Proofs.Ytbdnoiaglighhaa
