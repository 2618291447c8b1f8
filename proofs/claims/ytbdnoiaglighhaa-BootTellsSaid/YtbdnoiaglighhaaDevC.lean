/- What is copied of a map, in Crash. No statement is proved here. -/
import Derived.Test.YtbdnoiaglighhaaDevT
namespace Go.Proofs.Ytbdnoiaglighhaa
set_option linter.unusedVariables false
set_option linter.unusedSimpArgs false
open Go.RowKit Go.Maps

abbrev ints (l : List Int) : List Value := l.map (Value.int .i64)
theorem info99 : (Try.prog.info? 99).map (·.size) = some 1 := by kernel_rfl
theorem ownsMap_one {w : World} {P : Program} {k : TypeId} {R : Value → Option (DataW Unit × List MemPlace)} {b n n' : Nat} {D D' : DataW Unit} (h : w.ownsMap P k R b n D) (h' : w.ownsMap P k R b n' D') : D = D' := by
  obtain ⟨es, clock, hb, _, _, rfl⟩ := h
  obtain ⟨es', clock', hb', _, _, rfl⟩ := h'
  rw [hb] at hb'
  injection hb' with hb'
  injection hb' with h1 _
  subst h1
  rfl
section
variable {w w' w2 : World} {F F' F2 : Nat → Prop} {db : Nat} {S S' S2 : Dev}
theorem MapIs.congr {m blocks size : Nat} {f g : Int → Option (List UInt8)} (h : MapIs w F m blocks size f) (he : ∀ x : Int, 0 ≤ x → x < blocks → f x = g x) : MapIs w F m blocks size g := by
  obtain ⟨hF, D, ho, hk, hf⟩ := h
  refine ⟨hF, D, ho, hk, fun x h0 h1 => ?_⟩
  rw [← he x h0 h1]
  exact hf x h0 h1
/-- So many bytes garbled. -/
def garbTo (l : List UInt8) (j : Nat) : List UInt8 := (l.take j).map (· ^^^ 165) ++ l.drop j
theorem garbTo_length (l : List UInt8) (j : Nat) : (garbTo l j).length = l.length := by simp [garbTo]; omega
theorem garbTo_all (l : List UInt8) : garbTo l l.length = Dev.garbled l := by simp [garbTo, Dev.garbled]
theorem garbTo_at (l : List UInt8) (j : Nat) (h : j < l.length) : (garbTo l j)[j]? = some l[j] := by
  unfold garbTo
  rw [List.getElem?_append_right (by simp; omega)]
  simp [Nat.min_eq_left (Nat.le_of_lt h), List.getElem?_eq_getElem h]
theorem garbTo_set (l : List UInt8) (j : Nat) (h : j < l.length) : (garbTo l j).set j (l[j] ^^^ 165) = garbTo l (j + 1) := by
  apply List.ext_getElem?
  intro i
  unfold garbTo
  by_cases hij : i = j
  · subst hij
    rw [List.getElem?_set_self (by simp; omega), List.getElem?_append_left (by simp; omega)]
    simp [List.getElem?_take_of_lt (Nat.lt_succ_self i), List.getElem?_eq_getElem h]
  · rw [List.getElem?_set_ne (Ne.symm hij)]
    rcases Nat.lt_or_ge i j with hlt | hge
    · rw [List.getElem?_append_left (by simp; omega), List.getElem?_append_left (by simp; omega)]
      simp [List.getElem?_take_of_lt hlt, List.getElem?_take_of_lt (show i < j + 1 by omega)]
    · rw [List.getElem?_append_right (by simp; omega), List.getElem?_append_right (by simp; omega)]
      simp only [List.length_map, List.length_take, Nat.min_eq_left (Nat.le_of_lt h), Nat.min_eq_left (show j + 1 ≤ l.length by omega), List.getElem?_drop]
      congr 1
      omega
theorem xor165 (x : UInt8) : bits .xor .u8 (x.toNat : Int) 165 = ((x ^^^ 165).toNat : Int) := by
  have := xor8 x 165
  simpa using this
/-- What was copied of a map so far. -/
def copied (left : Lit → Bool) (f : Int → Option (List UInt8)) : Int → Option (List UInt8) := fun x => if left (.int .i64 x) then none else f x
/-- A device while what was flushed is copied. -/
structure Copy (w : World) (F : Nat → Prop) (db : Nat) (T : Dev) (mS mN : Nat) (vL vT : Value) (r : Nat) (D : DataW Unit) (left : Lit → Bool) (q : Nat) : Prop where
  lies : Lies F w
  blk : Blk w db 102 (devCells T mS mN vL vT)
  parts : Parts w F { T with now := copied left T.stable } mS mN vL vT
  rng : w.ranges Try.prog 3 Rv mS r (Maps.size D) D left q
  out : ¬ F r
  sub : ∀ kl, left kl = true → Maps.has D kl = true
theorem copy_start {wr w3 : World} {Fk : Nat → Prop} {T : Dev} {mS mN : Nat} {vL vT : Value} (hl : Lies Fk wr) (hF : Fk db) (hb : Blk wr db 102 (devCells T mS mN vL vT)) (hp : Parts wr Fk T mS mN vL vT) (hb3 : Blk w3 db 102 (devCells T mS wr.heap.size vL vT)) (hg3 : (wr.alloc (.map #[] 0)).grownBy w3 (some db)) :
    ∃ D, w3.ownsMap Try.prog 3 Rv mS (Maps.size D) D ∧ ∀ w4, w4.ranges Try.prog 3 Rv mS w3.heap.size (Maps.size D) D (Maps.has D) (Maps.size D) → w3.grownBy w4 none → w4.heap.size = w3.heap.size + 1 →
      Copy w4 (fun g => Fk g ∨ g = wr.heap.size) db T mS wr.heap.size vL vT w3.heap.size D (Maps.has D) (Maps.size D) := by
  have hsz : (wr.alloc (.map #[] 0)).heap.size = wr.heap.size + 1 := by simp
  have hs3 := hg3.size
  have hmS := hl mS hp.stable.1
  have hl1 : Lies Fk (wr.alloc (.map #[] 0)) := hl.mono (by simp)
  have hp1 := hp.same hl (.alloc hl (.map #[] 0))
  have hbA := hb.alloc (.map #[] 0)
  have h102 : ∀ t, (102 : TypeId) ≠ t → NoRow (wr.alloc (.map #[] 0)) db t := fun t ht => NoRow.of hbA ht
  have hl1' : Lies (fun g => Fk g ∨ g = wr.heap.size) (wr.alloc (.map #[] 0)) := fun g hg => hg.elim (hl1 g) (fun e => by omega)
  have hs := SameBut.grown hl1' hg3
  have hp2 := (hp1.sub (G := fun g => Fk g ∨ g = wr.heap.size) (fun g hg => .inl hg)).but hs (h102 5 (by decide)) (h102 105 (by decide)) (h102 50 (by decide)) (hp1.stable.apart hbA) (hp1.now.apart hbA)
  have hdb : db < wr.heap.size := hb.lt
  have hnew := (MapIs.made wr (fun g => Fk g ∨ g = wr.heap.size) T.blocks T.size (.inr rfl)).but hs (h102 5 (by decide)) (by omega)
  obtain ⟨_, D, ho, hk, hf⟩ := hp2.stable
  refine ⟨D, ho, fun w4 hr hg4 hs4 => ?_⟩
  have hl3 : Lies (fun g => Fk g ∨ g = wr.heap.size) w3 := hl1'.mono hg3.size
  have hsame : Same (fun g => Fk g ∨ g = wr.heap.size) w3 w4 := .grown hl3 hg4 (fun g e => by cases e)
  have hp4 := hp2.same hl3 hsame
  refine ⟨hl3.mono hsame.1, (hg4.block db hb3.lt (by simp)).trans hb3, ⟨hp4.stable, (hnew.same hsame).congr (fun x h0 h1 => ?_), hp4.loose, hp4.trace, by omega⟩, hr, fun h => h.elim (fun h => by have := hl _ h; omega) (fun h => by omega), fun _ h => h⟩
  have := hf x h0 h1
  show none = if Maps.has D (.int .i64 x) = true then none else T.stable x
  cases hx : T.stable x with
  | none => simp
  | some l => simp only [hx] at this; rw [if_pos this.2.1]
theorem copy_step {w1 : World} {T : Dev} {mS mN r q q1 : Nat} {vL vT c : Value} {D : DataW Unit} {left : Lit → Bool} {x : Int} {kl : Lit} {y : DataW Unit × List MemPlace} (hk : T.Ok) (h : Copy w F db T mS mN vL vT r D left q) (hkey : keyOf Try.prog 3 (.int .i64 x) = some kl) (hlk : left kl = true) (hR : Rv c = some y) (hat : ∀ zd, D.atKey kl zd = y.1)
    (hr1 : w1.ranges Try.prog 3 Rv mS r (Maps.size D) D (fun z => left z && !z.sameKey kl) q1) (hg1 : w.grownBy w1 (some r)) :
    ∃ g n cap, c = .slice (some ⟨g, 0, none⟩) n cap ∧ Blk w1 db 102 (devCells T mS mN vL vT) ∧ ∃ w2, (Instr.mapUpdate 99 (.map (some mN)) (.int .i64 x) c).run Try.prog w1 = .ok () w2 ∧ Copy w2 F db T mS mN vL vT r D (fun z => left z && !z.sameKey kl) q1 ∧ But (fun g => F g ∨ g = r) w w2 := by
  obtain ⟨x', hx', rfl, _⟩ := keyOf_int_inv Try.underlying3 hkey
  injection hx' with _ hx'
  subst hx'
  have hhas := h.sub _ hlk
  obtain ⟨_, D', ho', hkk, hf⟩ := h.parts.stable
  obtain rfl := ownsMap_one ho' h.rng.owns
  obtain ⟨x2, hx2, h0, h1⟩ := hkk _ hhas
  injection hx2 with _ hx2
  subst hx2
  have hfx := hf x h0 h1
  cases hst : T.stable x with
  | none => simp only [hst] at hfx; rw [hfx] at hhas; cases hhas
  | some l =>
    simp only [hst] at hfx
    obtain ⟨hlen, _, v, hdat, hdv⟩ := hfx
    have hd := hdat
    obtain ⟨g, cap, rfl, _, _⟩ := hd
    have hy : y = (dv (.slice (some ⟨g, 0, none⟩) l.length cap), y.2) := by
      have := (hat .nil).symm.trans (hdv .nil)
      rw [← this]
    rw [hy] at hR
    obtain rfl := Rv_is hR
    have hsame : Same F w w1 := .grown h.lies hg1 (fun g e hF => h.out (by cases e; exact hF))
    have hdb1 : Blk w1 db 102 (devCells T mS mN vL vT) := (hg1.block db h.blk.lt (fun e => by
      have := Option.some.inj e
      subst this
      obtain ⟨_, _, _, _, _, _, _, _, _, hr, _⟩ := h.rng
      have hh := hr.symm.trans h.blk
      injection hh with hh
      cases hh)).trans h.blk
    have hl1 : Lies F w1 := h.lies.mono hg1.size
    have hp1 : Parts w1 F { T with now := copied left T.stable } mS mN vL vT := h.parts.same h.lies hsame
    have hda : Dat w1 F (.slice (some ⟨g, 0, none⟩) l.length cap) l := hdat.same hsame
    obtain ⟨w2, hrun, hp2, hg2, n5, n102⟩ := Parts.storeNow (w := w1) (S := { T with now := copied left T.stable }) hl1 ⟨hk.blocks, hk.size, hk.pos, hk.after⟩ hp1 (x := x) ⟨h0, h1⟩ hda hlen
    have hnF : F mN := hp1.now.1
    have hnr : some r ≠ some mN := fun e => h.out (by rw [Option.some.inj e]; exact hnF)
    have hnd : some db ≠ some mN := fun e => n102 _ (by have := Option.some.inj e; subst this; exact hdb1)
    have hnS : some mS ≠ some mN := fun e => hp1.apart (Option.some.inj e)
    refine ⟨g, l.length, cap, rfl, hdb1, w2, hrun, ⟨hl1.mono hg2.size, (hg2.block db hdb1.lt hnd).trans hdb1, ?_, World.ranges.kept hr1 hg2 hnS hnr, h.out, fun kl hkl => h.sub kl (by simp only [Bool.and_eq_true] at hkl; exact hkl.1)⟩, ?_⟩
    · rw [show upd ({ T with now := copied left T.stable } : Dev).now x l = copied (fun z => left z && !z.sameKey (.int .i64 x)) T.stable from ?_] at hp2
      · exact hp2
      · funext y
        show upd (copied left T.stable) x l y = _
        unfold upd copied
        by_cases e : y = x
        · subst e; simp [Lit.sameKey, hst]
        · simp [Lit.sameKey, e]
    · exact (But.of_grown (F := fun g => F g ∨ g = r) hg1 (.inr rfl)).trans (.of_grown hg2 (show (fun g => F g ∨ g = r) mN from .inl hnF)) (fun _ h => .inl h)
theorem copy_end {T : Dev} {mS mN r q : Nat} {vL vT : Value} {D : DataW Unit} {left : Lit → Bool} (h : Copy w F db T mS mN vL vT r D left q) (hl : ∀ kl, left kl = false) : Parts w F { T with now := T.stable } mS mN vL vT :=
  ⟨h.parts.stable, h.parts.now.congr (fun x _ _ => by simp [copied, hl]), h.parts.loose, h.parts.trace, h.parts.apart⟩
theorem crash_fin {w7 : World} {T : Dev} {mS mN : Nat} {vL vT : Value} (hl : Lies F w) (hF : F db) (hk : T.Ok) (hp : Parts w F { T with now := T.stable } mS mN vL vT) (hb : Blk w db 102 (devCells T mS mN vL vT)) (hg : w.grownBy w7 (some db)) (hb7 : Blk w7 db 102 (devCells { T with loose := [], off := false, after := -1 } mS mN (.slice none 0 0) vT)) :
    DiskAt w7 db { T with now := T.stable, loose := [], off := false, after := -1 } F := by
  have hs := SameBut.grown hl hg
  have h102 : ∀ t, (102 : TypeId) ≠ t → NoRow w db t := fun t ht => NoRow.of hb ht
  have hp7 := hp.but hs (h102 5 (by decide)) (h102 105 (by decide)) (h102 50 (by decide)) (hp.stable.apart hb) (hp.now.apart hb)
  exact ⟨hl.mono hg.size, hF, ⟨hk.blocks, hk.size, hk.pos, by show (-1 : Int) ≤ -1 ∧ (-1 : Int) ≤ _; omega⟩, mS, mN, .slice none 0 0, vT, hb7, ⟨hp7.stable, hp7.now, .nil _ _ _ _ _, hp7.trace, hp7.apart⟩⟩
end
end Go.Proofs.Ytbdnoiaglighhaa
