/- Where a device lies in memory, whole: its two maps, the writes that were not flushed, the trace. No statement is proved here. -/
import Derived.Test.YtbdnoiaglighhaaDevM
namespace Go.Proofs.Ytbdnoiaglighhaa
set_option linter.unusedVariables false
set_option linter.unusedSimpArgs false
open Go.RowKit Go.Maps

/-- What stands on F, but for block b, holds what it held. -/
def SameBut (F : Nat → Prop) (b : Nat) (w w' : World) : Prop := w.heap.size ≤ w'.heap.size ∧ ∀ g, F g → g ≠ b → w'.heap[g]? = w.heap[g]?
theorem SameBut.of {F : Nat → Prop} {w w' : World} (h : Same F w w') (b : Nat) : SameBut F b w w' := ⟨h.1, fun g hg _ => h.2 g hg⟩
theorem SameBut.grown {F : Nat → Prop} {w w' : World} {b : Nat} (hF : Lies F w) (h : w.grownBy w' (some b)) : SameBut F b w w' := ⟨h.size, fun g hg hne => h.block g (hF g hg) (fun e => hne (Option.some.inj e))⟩

/-- Two rows, item by item. -/
def All2 {α β : Type} (R : α → β → Prop) : List α → List β → Prop
  | [], [] => True
  | x :: xs, y :: ys => R x y ∧ All2 R xs ys
  | _, _ => False
section
variable {α β : Type} {R R' : α → β → Prop}
theorem All2.imp (h : ∀ x y, R x y → R' x y) : ∀ {xs : List α} {ys : List β}, All2 R xs ys → All2 R' xs ys
  | [], [], _ => trivial
  | _ :: _, _ :: _, hr => ⟨h _ _ hr.1, All2.imp h hr.2⟩
  | [], _ :: _, hr => hr.elim
  | _ :: _, [], hr => hr.elim
theorem All2.snoc : ∀ {xs : List α} {ys : List β} {x : α} {y : β}, All2 R xs ys → R x y → All2 R (xs ++ [x]) (ys ++ [y])
  | [], [], _, _, _, h => ⟨h, trivial⟩
  | _ :: _, _ :: _, _, _, hr, h => ⟨hr.1, All2.snoc hr.2 h⟩
  | [], _ :: _, _, _, hr, _ => hr.elim
  | _ :: _, [], _, _, hr, _ => hr.elim
theorem All2.len : ∀ {xs : List α} {ys : List β}, All2 R xs ys → xs.length = ys.length
  | [], [], _ => rfl
  | _ :: _, _ :: _, hr => by simp [All2.len hr.2]
  | [], _ :: _, hr => hr.elim
  | _ :: _, [], hr => hr.elim
theorem All2.get : ∀ {xs : List α} {ys : List β} (h : All2 R xs ys) (i : Nat) (hx : i < xs.length), ∃ y, ys[i]? = some y ∧ R xs[i] y
  | x :: _, y :: _, hr, 0, _ => ⟨y, rfl, hr.1⟩
  | _ :: xs, _ :: ys, hr, i + 1, hx => by
    obtain ⟨y, h1, h2⟩ := All2.get hr.2 i (by simpa using hx)
    exact ⟨y, by simpa using h1, by simpa using h2⟩
  | [], _, _, _, hx => absurd hx (by simp)
  | _ :: _, [], hr, _, _ => hr.elim
end

/-- An event as it lies. -/
def EvIs (w : World) (F : Nat → Prop) (e : Ev) (c : List Value) : Prop :=
  e.head.length = 12 ∧ ∃ bv, c = .int .i64 e.kind :: .int .i64 e.place :: (bs e.head ++ [bv]) ∧ match e.body with | none => bv = .slice none 0 0 | some l => Dat w F bv l
/-- A write that was not flushed, as it lies. -/
def LwIs (w : World) (F : Nat → Prop) (blocks size : Nat) (p : Int × List UInt8) (c : List Value) : Prop :=
  0 ≤ p.1 ∧ p.1 < blocks ∧ p.2.length = size ∧ ∃ v, c = [.int .i64 p.1, v] ∧ Dat w F v p.2
/-- A row of records. -/
def RecsIs {α : Type} (w : World) (F : Nat → Prop) (e size : Nat) (v : Value) (R : α → List Value → Prop) (xs : List α) : Prop :=
  (∃ cs, All2 R xs cs ∧ w.ownsRow 0 e size v xs.length cs.flatten) ∧ ∀ g, v.ownBlock = some g → F g

/-- Block b holds no cells of type t. -/
def NoRow (w : World) (b : Nat) (t : TypeId) : Prop := ∀ cs, w.heap[b]? ≠ some (.cells cs t (0, 0))
theorem NoRow.of {w : World} {b : Nat} {t t' : TypeId} {cs : Array Value} {fr : Nat × Nat} (h : w.heap[b]? = some (.cells cs t fr)) (hne : t ≠ t') : NoRow w b t' := fun cs' h' => by
  rw [h] at h'
  injection h' with h'
  injection h' with _ h2 _
  exact hne h2
theorem NoRow.map {w : World} {b n : Nat} {P : Program} {k : TypeId} {R : Value → Option (DataW Unit × List MemPlace)} {D : DataW Unit} (h : w.ownsMap P k R b n D) (t : TypeId) : NoRow w b t := fun cs' h' => by
  obtain ⟨es, clock, hb, _⟩ := h
  rw [hb] at h'
  injection h' with h'
  cases h'
theorem NoRow.new {w : World} {b : Nat} (h : w.heap.size ≤ b) (t : TypeId) : NoRow w b t := fun cs' h' => by
  rw [Array.getElem?_eq_none h] at h'
  cases h'

section
variable {w w' : World} {F G : Nat → Prop} {v : Value} {l : List UInt8} {b : Nat}
theorem own_but {base : Nat} {e : TypeId} {size n : Nat} {xs : List Value} (h : w.ownsRow base e size v n xs) (hs : ∀ g, v.ownBlock = some g → g ≠ b → w'.heap[g]? = w.heap[g]?) (hb : NoRow w b e) : w'.ownsRow base e size v n xs := by
  refine ⟨h.1, ?_⟩
  rcases h.2 with hn | ⟨g, cap, cur, rfl, hb', hg, rest⟩
  · exact .inl hn
  · exact .inr ⟨g, cap, cur, rfl, hb', (hs g rfl (fun e => hb _ (e ▸ hg))).trans hg, rest⟩
theorem Dat.but (h : Dat w F v l) (hs : SameBut F b w w') (hb : NoRow w b 5) : Dat w' F v l := by
  obtain ⟨g, c, rfl, ho, hF⟩ := h
  exact ⟨g, c, rfl, own_but ho (fun k hk hne => by cases hk; exact hs.2 g hF hne) hb, hF⟩
theorem MapIs.but {m blocks size : Nat} {f : Int → Option (List UInt8)} (h : MapIs w F m blocks size f) (hs : SameBut F b w w') (hb : NoRow w b 5) (hm : m ≠ b) : MapIs w' F m blocks size f := by
  obtain ⟨hF, D, ho, hk, hf⟩ := h
  refine ⟨hF, D, ownsMap_same ho (hs.2 m hF hm), hk, fun x h0 h1 => ?_⟩
  have := hf x h0 h1
  cases hx : f x with
  | none => simp only [hx] at this ⊢; exact this
  | some l =>
    simp only [hx] at this ⊢
    obtain ⟨h1, h2, v, h3, h4⟩ := this
    exact ⟨h1, h2, v, h3.but hs hb, h4⟩
theorem EvIs.but {e : Ev} {c : List Value} (h : EvIs w F e c) (hs : SameBut F b w w') (hb : NoRow w b 5) : EvIs w' F e c := by
  obtain ⟨h1, bv, h2, h3⟩ := h
  refine ⟨h1, bv, h2, ?_⟩
  cases hx : e.body with
  | none => simpa [hx] using h3
  | some l => simp only [hx] at h3 ⊢; exact h3.but hs hb
theorem EvIs.sub {e : Ev} {c : List Value} (h : EvIs w F e c) (hs : ∀ g, F g → G g) : EvIs w G e c := by
  obtain ⟨h1, bv, h2, h3⟩ := h
  refine ⟨h1, bv, h2, ?_⟩
  cases hx : e.body with
  | none => simpa [hx] using h3
  | some l => simp only [hx] at h3 ⊢; exact h3.sub hs
theorem LwIs.but {blocks size : Nat} {p : Int × List UInt8} {c : List Value} (h : LwIs w F blocks size p c) (hs : SameBut F b w w') (hb : NoRow w b 5) : LwIs w' F blocks size p c := by
  obtain ⟨h1, h2, h3, v, h4, h5⟩ := h
  exact ⟨h1, h2, h3, v, h4, h5.but hs hb⟩
theorem LwIs.sub {blocks size : Nat} {p : Int × List UInt8} {c : List Value} (h : LwIs w F blocks size p c) (hs : ∀ g, F g → G g) : LwIs w G blocks size p c := by
  obtain ⟨h1, h2, h3, v, h4, h5⟩ := h
  exact ⟨h1, h2, h3, v, h4, h5.sub hs⟩
theorem RecsIs.but {α : Type} {e size : Nat} {R R' : α → List Value → Prop} {xs : List α} (h : RecsIs w F e size v R xs) (hR : ∀ x c, R x c → R' x c) (hs : SameBut F b w w') (he : NoRow w b e) : RecsIs w' F e size v R' xs := by
  obtain ⟨⟨cs, ha, ho⟩, hF⟩ := h
  exact ⟨⟨cs, ha.imp hR, own_but ho (fun g hg hne => hs.2 g (hF g hg) hne) he⟩, hF⟩
theorem RecsIs.sub {α : Type} {e size : Nat} {R R' : α → List Value → Prop} {xs : List α} (h : RecsIs w F e size v R xs) (hR : ∀ x c, R x c → R' x c) (hs : ∀ g, F g → G g) : RecsIs w G e size v R' xs := by
  obtain ⟨⟨cs, ha, ho⟩, hF⟩ := h
  exact ⟨⟨cs, ha.imp hR, ho⟩, fun g hg => hs g (hF g hg)⟩
theorem RecsIs.nil {α : Type} (w : World) (F : Nat → Prop) (e size : Nat) (R : α → List Value → Prop) : RecsIs w F e size (.slice none 0 0) R [] := ⟨⟨[], trivial, World.ownsRow_nil _ _ _ _⟩, fun g hg => by cases hg⟩

/-- A device's own cells. -/
def devCells (S : Dev) (mS mN : Nat) (vL vT : Value) : List Value := [.int .i64 S.blocks, .int .i64 S.size, .map (some mS), .map (some mN), vL, .int .i64 S.after, .bool S.off, vT]
/-- What a device's cells lead to. -/
structure Parts (w : World) (F : Nat → Prop) (S : Dev) (mS mN : Nat) (vL vT : Value) : Prop where
  stable : MapIs w F mS S.blocks S.size S.stable
  now : MapIs w F mN S.blocks S.size S.now
  loose : RecsIs w F 105 2 vL (LwIs w F S.blocks S.size) S.loose
  trace : RecsIs w F 50 15 vT (EvIs w F) S.trace
  apart : mS ≠ mN
/-- Numbers within their bounds. -/
structure Dev.Ok (S : Dev) : Prop where
  blocks : S.blocks ≤ 100000
  size : S.size ≤ 60000
  pos : 0 < S.size
  after : -1 ≤ S.after ∧ S.after ≤ 9223372036854775807
/-- The device at block db, that stands on F. -/
structure DiskAt (w : World) (db : Nat) (S : Dev) (F : Nat → Prop) : Prop where
  lies : Lies F w
  own : F db
  ok : S.Ok
  parts : ∃ mS mN vL vT, Blk w db 102 (devCells S mS mN vL vT) ∧ Parts w F S mS mN vL vT

theorem Parts.but {S : Dev} {mS mN : Nat} {vL vT : Value} (h : Parts w F S mS mN vL vT) (hs : SameBut F b w w') (h5 : NoRow w b 5) (h105 : NoRow w b 105) (h50 : NoRow w b 50) (hS : mS ≠ b) (hN : mN ≠ b) : Parts w' F S mS mN vL vT :=
  ⟨h.stable.but hs h5 hS, h.now.but hs h5 hN, h.loose.but (fun _ _ h => h.but hs h5) hs h105, h.trace.but (fun _ _ h => h.but hs h5) hs h50, h.apart⟩
theorem Parts.sub {S : Dev} {mS mN : Nat} {vL vT : Value} (h : Parts w F S mS mN vL vT) (hs : ∀ g, F g → G g) : Parts w G S mS mN vL vT :=
  ⟨h.stable.sub hs, h.now.sub hs, h.loose.sub (fun _ _ h => h.sub hs) hs, h.trace.sub (fun _ _ h => h.sub hs) hs, h.apart⟩
theorem Parts.same {S : Dev} {mS mN : Nat} {vL vT : Value} (h : Parts w F S mS mN vL vT) (hF : Lies F w) (hs : Same F w w') : Parts w' F S mS mN vL vT := by
  have hl : ∀ g, F g → g ≠ w.heap.size := fun g hg => by have := hF g hg; omega
  exact h.but (b := w.heap.size) (.of hs _) (.new (Nat.le_refl _) _) (.new (Nat.le_refl _) _) (.new (Nat.le_refl _) _) (hl _ h.stable.1) (hl _ h.now.1)
theorem Lies.mono (h : Lies F w) (hs : w.heap.size ≤ w'.heap.size) : Lies F w' := fun g hg => Nat.lt_of_lt_of_le (h g hg) hs
theorem DiskAt.same {db : Nat} {S : Dev} (h : DiskAt w db S F) (hs : Same F w w') : DiskAt w' db S F := by
  obtain ⟨hl, ho, hk, mS, mN, vL, vT, hb, hp⟩ := h
  exact ⟨hl.mono hs.1, ho, hk, mS, mN, vL, vT, (hs.2 db ho).trans hb, hp.same hl hs⟩
theorem DiskAt.sub {db : Nat} {S : Dev} (h : DiskAt w db S F) (hs : ∀ g, F g → G g) (hG : Lies G w) : DiskAt w db S G := by
  obtain ⟨hl, ho, hk, mS, mN, vL, vT, hb, hp⟩ := h
  exact ⟨hG, hs db ho, hk, mS, mN, vL, vT, hb, hp.sub hs⟩
/-- A block that is known whole is none of a map's. -/
theorem MapIs.apart {m blocks size : Nat} {f : Int → Option (List UInt8)} {cs : List Value} {t : TypeId} (h : MapIs w F m blocks size f) (hb : Blk w b t cs) : m ≠ b := by
  obtain ⟨_, D, ho, _⟩ := h
  rintro rfl
  exact NoRow.map ho t _ hb

/-- What a call on a device does to the rest. -/
structure But (F : Nat → Prop) (w w' : World) : Prop where
  os : w'.os = w.os
  tape : w'.tape = w.tape
  output : w'.output = w.output
  size : w.heap.size ≤ w'.heap.size
  block : ∀ g, g < w.heap.size → ¬ F g → w'.heap[g]? = w.heap[g]?
theorem But.refl (F : Nat → Prop) (w : World) : But F w w := ⟨rfl, rfl, rfl, Nat.le_refl _, fun _ _ _ => rfl⟩
theorem But.of_below (F : Nat → Prop) (h : Below w.heap.size w w') : But F w w' := ⟨h.os, h.tape, h.output, h.size, fun g hg _ => h.block g hg⟩
theorem But.of_grown (h : w.grownBy w' (some b)) (hb : F b) : But F w w' := ⟨h.os, h.tape, h.output, h.size, fun g hg hn => h.block g hg (fun e => hn (Option.some.inj e ▸ hb))⟩
theorem But.of_grown_none (F : Nat → Prop) (h : w.grownBy w' none) : But F w w' := ⟨h.os, h.tape, h.output, h.size, fun g hg hn => h.block g hg (by simp)⟩
theorem But.trans {w'' : World} (h : But F w w') (k : But G w' w'') (hG : ∀ g, G g → F g ∨ w.heap.size ≤ g) : But F w w'' :=
  ⟨k.os.trans h.os, k.tape.trans h.tape, k.output.trans h.output, Nat.le_trans h.size k.size, fun g hg hn => (k.block g (Nat.lt_of_lt_of_le hg h.size) (fun hk => (hG g hk).elim hn (fun h => by omega))).trans (h.block g hg hn)⟩
theorem But.drewN (h : But F w w') (n : Nat) : But F w (w'.drewN n) := ⟨h.os, h.tape, h.output, h.size, h.block⟩
theorem But.drew (h : But F w w') : But F w w'.drew := ⟨h.os, h.tape, h.output, h.size, h.block⟩
theorem But.below {base : Nat} (h : But F w w') (hF : ∀ g, F g → base ≤ g) (hb : base ≤ w.heap.size) : Below base w w' :=
  ⟨h.os, h.tape, h.output, h.size, fun g hg => h.block g (by omega) (fun hk => by have := hF g hk; omega)⟩
/-- A call on a device: what it stands on behind the call. -/
def Calls1 (db : Nat) (S' : Dev) (F : Nat → Prop) (w w' : World) (F' : Nat → Prop) : Prop := DiskAt w' db S' F' ∧ (∀ g, F g → F' g) ∧ (∀ g, F' g → F g ∨ w.heap.size ≤ g) ∧ But F w w'
end
end Go.Proofs.Ytbdnoiaglighhaa
