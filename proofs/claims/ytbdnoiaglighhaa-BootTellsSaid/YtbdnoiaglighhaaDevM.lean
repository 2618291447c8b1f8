/- Where a device lies in memory, and what it stands on. No statement is proved here. -/
import Derived.Test.YtbdnoiaglighhaaDev
import Derived.Test.YtbdnoiaglighhaaXorW
import Derived.Maps.OwnOps
import Derived.Maps.OwnSet
import Derived.Maps.RangeWalk
import Derived.Lib.SmallJoins
namespace Go.Proofs.Ytbdnoiaglighhaa
set_option linter.unusedVariables false
set_option linter.unusedSimpArgs false
open Go.RowKit Go.Maps

abbrev num (c : Int) : DataW Unit := .lit (.int .i64 c)
/-- How a block's slice reads, in a map: by where it lies. -/
def Rv (v : Value) : Option (DataW Unit × List MemPlace) := match v with
  | .slice (some ⟨g, 0, none⟩) n c => some (.agg [num g, num n, num c], [])
  | .slice none 0 0 => some (.nil, [])
  | _ => none
/-- What a map reads at a block's slice. -/
def dv (v : Value) : DataW Unit := match v with
  | .slice (some ⟨g, 0, none⟩) n c => .agg [num g, num n, num c]
  | _ => .nil
theorem Rv_dv (g n c : Nat) : Rv (.slice (some ⟨g, 0, none⟩) n c) = some (dv (.slice (some ⟨g, 0, none⟩) n c), []) := rfl
theorem Rv_inv {v : Value} {y : DataW Unit × List MemPlace} (h : Rv v = some y) : v = .slice none 0 0 ∧ y = (.nil, []) ∨ ∃ g n c, v = .slice (some ⟨g, 0, none⟩) n c ∧ y = (dv (.slice (some ⟨g, 0, none⟩) n c), []) := by
  unfold Rv at h
  split at h
  · exact .inr ⟨_, _, _, rfl, (Option.some.inj h).symm⟩
  · exact .inl ⟨rfl, (Option.some.inj h).symm⟩
  · cases h
theorem dv_inj {g n c g' n' c' : Nat} (h : dv (.slice (some ⟨g, 0, none⟩) n c) = dv (.slice (some ⟨g', 0, none⟩) n' c')) : g = g' ∧ n = n' ∧ c = c' := by
  simp only [dv, DataW.agg.injEq, List.cons.injEq, DataW.lit.injEq, Lit.int.injEq, true_and, and_true] at h
  omega
theorem Rv_is {v : Value} {ps : List MemPlace} {g n c : Nat} (h : Rv v = some (dv (.slice (some ⟨g, 0, none⟩) n c), ps)) : v = .slice (some ⟨g, 0, none⟩) n c := by
  rcases Rv_inv h with ⟨_, h⟩ | ⟨g', n', c', hv, h⟩
  · simp [dv] at h
  · obtain ⟨h1, h2, h3⟩ := dv_inj (Prod.mk.inj h).1
    rw [hv, h1, h2, h3]
theorem Rv_nil {v : Value} {ps : List MemPlace} (h : Rv v = some (.nil, ps)) : v = .slice none 0 0 := by
  rcases Rv_inv h with ⟨h, _⟩ | ⟨g', n', c', hv, h⟩
  · exact h
  · have := (Prod.mk.inj h).1
    simp [dv] at this

/-- What stands on F holds what it held. -/
def Same (F : Nat → Prop) (w w' : World) : Prop := w.heap.size ≤ w'.heap.size ∧ ∀ g, F g → w'.heap[g]? = w.heap[g]?
theorem Same.refl (F : Nat → Prop) (w : World) : Same F w w := ⟨Nat.le_refl _, fun _ _ => rfl⟩
theorem Same.trans {F : Nat → Prop} {a b c : World} (h : Same F a b) (k : Same F b c) : Same F a c := ⟨Nat.le_trans h.1 k.1, fun g hg => (k.2 g hg).trans (h.2 g hg)⟩
/-- F lies in the world. -/
def Lies (F : Nat → Prop) (w : World) : Prop := ∀ g, F g → g < w.heap.size
theorem Same.below {F : Nat → Prop} {w w' : World} (hF : Lies F w) (h : Below w.heap.size w w') : Same F w w' := ⟨h.size, fun g hg => h.block g (hF g hg)⟩
theorem Same.grown {F : Nat → Prop} {w w' : World} {row : Option Nat} (hF : Lies F w) (h : w.grownBy w' row) (hr : ∀ g, row = some g → ¬ F g) : Same F w w' := ⟨h.size, fun g hg => h.block g (hF g hg) (fun e => hr g e.symm hg)⟩
theorem Same.alloc {F : Nat → Prop} {w : World} (hF : Lies F w) (o : Obj) : Same F w (w.alloc o) := ⟨by simp, fun g hg => Below.heap_alloc w o g (hF g hg)⟩
theorem Same.drewN {F : Nat → Prop} (w : World) (n : Nat) : Same F w (w.drewN n) := ⟨Nat.le_refl _, fun _ _ => rfl⟩
theorem Same.sub {F G : Nat → Prop} {w w' : World} (h : Same F w w') (hs : ∀ g, G g → F g) : Same G w w' := ⟨h.1, fun g hg => h.2 g (hs g hg)⟩

section
variable {w w' : World} {F G : Nat → Prop} {v : Value} {l : List UInt8}
theorem own_same {base : Nat} {e : TypeId} {size n : Nat} {xs : List Value} (h : w.ownsRow base e size v n xs) (hs : ∀ g, v.ownBlock = some g → w'.heap[g]? = w.heap[g]?) : w'.ownsRow base e size v n xs := by
  refine ⟨h.1, ?_⟩
  rcases h.2 with hn | ⟨g, cap, cur, rfl, hb, hg, rest⟩
  · exact .inl hn
  · exact .inr ⟨g, cap, cur, rfl, hb, (hs g rfl).trans hg, rest⟩

/-- The slice v is a block of F's with the bytes l. -/
def Dat (w : World) (F : Nat → Prop) (v : Value) (l : List UInt8) : Prop := ∃ g c, v = .slice (some ⟨g, 0, none⟩) l.length c ∧ w.ownsRow 0 5 1 v l.length (bs l) ∧ F g
theorem Dat.same (h : Dat w F v l) (hs : Same F w w') : Dat w' F v l := by
  obtain ⟨g, c, rfl, ho, hF⟩ := h
  exact ⟨g, c, rfl, own_same ho (fun k hk => by cases hk; exact hs.2 g hF), hF⟩
theorem Dat.sub (h : Dat w F v l) (hs : ∀ g, F g → G g) : Dat w G v l := by
  obtain ⟨g, c, rfl, ho, hF⟩ := h
  exact ⟨g, c, rfl, ho, hs g hF⟩
theorem Dat.cells (h : Dat w F v l) : ∃ g c cs, v = .slice (some ⟨g, 0, none⟩) l.length c ∧ F g ∧ w.heap[g]? = some (.cells cs 5 (0, 0)) := by
  obtain ⟨g, c, rfl, ho, hF⟩ := h
  rcases ho.2 with ⟨h, _⟩ | ⟨g', cap, cur, hv, _, hh, _⟩
  · cases h
  · injection hv with hv _ _
    injection hv with hv
    injection hv with h1 _ _
    subst h1
    exact ⟨g, c, cur, rfl, hF, hh⟩
theorem Dat.rd (h : Dat w F v l) : ∃ A c, v = .slice A l.length c ∧ Rd w A (bs l) := by
  obtain ⟨g, c, rfl, ho, hF⟩ := h
  exact ⟨_, c, rfl, .of_own ho⟩

/-- The map at block m says what stands at each place. -/
def MapIs (w : World) (F : Nat → Prop) (m blocks size : Nat) (f : Int → Option (List UInt8)) : Prop :=
  F m ∧ ∃ D, w.ownsMap Try.prog 3 Rv m (Maps.size D) D ∧ (∀ kl, Maps.has D kl = true → ∃ x : Int, kl = .int .i64 x ∧ 0 ≤ x ∧ x < blocks) ∧
    ∀ x : Int, 0 ≤ x → x < blocks → match f x with
      | none => Maps.has D (.int .i64 x) = false
      | some l => l.length = size ∧ Maps.has D (.int .i64 x) = true ∧ ∃ v, Dat w F v l ∧ ∀ z, D.atKey (.int .i64 x) z = dv v

theorem ownsMap_tight {P : Program} {k : TypeId} {R : Value → Option (DataW Unit × List MemPlace)} {b n : Nat} {D : DataW Unit} (h : w.ownsMap P k R b n D) : w.ownsMap P k R b (Maps.size D) D := by
  obtain ⟨es, clock, hb, Ft, hs, rfl⟩ := h
  refine ⟨es, clock, hb, Ft, ?_, rfl⟩
  rw [Maps.size_eq, length_sorted]
  simp
theorem ownsMap_same {P : Program} {k : TypeId} {R : Value → Option (DataW Unit × List MemPlace)} {b n : Nat} {D : DataW Unit} (h : w.ownsMap P k R b n D) (hs : w'.heap[b]? = w.heap[b]?) : w'.ownsMap P k R b n D := by
  obtain ⟨es, clock, hb, rest⟩ := h
  exact ⟨es, clock, hs.trans hb, rest⟩
theorem MapIs.same {m blocks size : Nat} {f : Int → Option (List UInt8)} (h : MapIs w F m blocks size f) (hs : Same F w w') : MapIs w' F m blocks size f := by
  obtain ⟨hF, D, ho, hk, hf⟩ := h
  refine ⟨hF, D, ownsMap_same ho (hs.2 m hF), hk, fun x h0 h1 => ?_⟩
  have := hf x h0 h1
  cases hx : f x with
  | none => simp only [hx] at this ⊢; exact this
  | some l =>
    simp only [hx] at this ⊢
    obtain ⟨h1, h2, v, h3, h4⟩ := this
    exact ⟨h1, h2, v, h3.same hs, h4⟩
theorem MapIs.sub {m blocks size : Nat} {f : Int → Option (List UInt8)} (h : MapIs w F m blocks size f) (hs : ∀ g, F g → G g) : MapIs w G m blocks size f := by
  obtain ⟨hF, D, ho, hk, hf⟩ := h
  refine ⟨hs m hF, D, ho, hk, fun x h0 h1 => ?_⟩
  have := hf x h0 h1
  cases hx : f x with
  | none => simp only [hx] at this ⊢; exact this
  | some l =>
    simp only [hx] at this ⊢
    obtain ⟨h1, h2, v, h3, h4⟩ := this
    exact ⟨h1, h2, v, h3.sub hs, h4⟩
theorem key3 : Keyed Try.prog 3 := int_keyed Try.underlying3
theorem key_in {x : Int} {n : Nat} (h0 : 0 ≤ x) (h1 : x < n) (hn : n ≤ 100000) : keyOf Try.prog 3 (.int .i64 x) = some (.int .i64 x) := keyOf_int_mk Try.underlying3 (WalkArith.wf_i64 (by omega))
theorem zero41 (w : World) : (zeroValue 41).run Try.prog w = .ok (.slice none 0 0) w := by kernel_rfl

/-- 'm[x]'. -/
theorem MapIs.look {m blocks size : Nat} {f : Int → Option (List UInt8)} (h : MapIs w F m blocks size f) (hn : blocks ≤ 100000) {x : Int} (h0 : 0 ≤ x) (h1 : x < blocks) :
    ∃ v, (Instr.lookup 99 (.map (some m)) (.int .i64 x) false).run Try.prog w = .ok v w ∧ ((f x = none ∧ v = .slice none 0 0) ∨ ∃ l, f x = some l ∧ l.length = size ∧ Dat w F v l) := by
  obtain ⟨hF, D, ho, hk, hf⟩ := h
  obtain ⟨v, ps, hrun, hv⟩ := ho.lookup key3 (by kernel_rfl : Try.prog.underlying 99 = some (.map 3 41)) (zero41 w) (zd := .nil) (zp := []) rfl (key_in h0 h1 hn)
  refine ⟨v, hrun, ?_⟩
  have := hf x h0 h1
  cases hx : f x with
  | none =>
    simp only [hx] at this
    rw [atKey_of_not_has this] at hv
    exact .inl ⟨rfl, Rv_nil hv⟩
  | some l =>
    simp only [hx] at this
    obtain ⟨h1, h2, v', h3, h4⟩ := this
    rw [h4] at hv
    obtain ⟨g, c, rfl, ho', hg⟩ := h3
    obtain rfl := Rv_is hv
    exact .inr ⟨l, rfl, h1, g, c, rfl, ho', hg⟩

/-- As many different numbers as are below n, no more. -/
theorem few : ∀ (n : Nat) (l : List Int), l.Pairwise (· ≠ ·) → (∀ x ∈ l, 0 ≤ x ∧ x < n) → l.length ≤ n
  | 0, l, _, h => by
    cases l with
    | nil => simp
    | cons x r => have := h x List.mem_cons_self; omega
  | n + 1, l, hp, h => by
    have h1 := few n (l.filter (· ≠ (n : Int))) (hp.filter _) (fun x hx => by
      have := List.mem_filter.1 hx
      have h2 := h x this.1
      have h3 : x ≠ (n : Int) := by simpa using this.2
      omega)
    have h2 : l.length ≤ (l.filter (· ≠ (n : Int))).length + 1 := by
      clear h h1
      induction l with
      | nil => simp
      | cons x r ih =>
        have hp' := List.pairwise_cons.1 hp
        by_cases hx : x = (n : Int)
        · have : r.filter (· ≠ (n : Int)) = r := List.filter_eq_self.2 (fun y hy => by have := hp'.1 y hy; simp; intro e; exact this (hx.trans e.symm))
          rw [List.filter_cons_of_neg (by simp [hx]), this]
          simp
        · have := ih hp'.2
          simp [hx] at this ⊢
          omega
    omega
theorem MapIs.small {D : DataW Unit} {m n : Nat} (ho : w.ownsMap Try.prog 3 Rv m n D) {blocks : Nat} (hk : ∀ kl, Maps.has D kl = true → ∃ x : Int, kl = .int .i64 x ∧ 0 ≤ x ∧ x < blocks) : Maps.size D ≤ blocks := by
  obtain ⟨es, rfl, hp, hkl⟩ := ho.entries key3
  rw [Maps.size_eq]
  have hkey : ∀ p ∈ es, ∃ x : Int, p.1 = .int .i64 x ∧ 0 ≤ x ∧ x < blocks := fun p hp' => hk p.1 (by rw [has_eq]; exact List.any_eq_true.2 ⟨p, hp', WideAt.sameKey_self (hkl p hp')⟩)
  let num1 : Lit × DataW Unit → Int := fun p => match p.1 with | .int _ x => x | _ => 0
  have h1 := few blocks (es.map num1) (by
    rw [List.pairwise_map]
    refine hp.imp_of_mem (fun {p q} hp1 hq1 hne => ?_)
    obtain ⟨x, hx, _⟩ := hkey p hp1
    obtain ⟨y, hy, _⟩ := hkey q hq1
    simp only [num1, hx, hy]
    intro e
    subst e
    exact hne (hx.trans hy.symm)) (fun x hx => by
    obtain ⟨p, hp1, rfl⟩ := List.mem_map.1 hx
    obtain ⟨x, hx, h2⟩ := hkey p hp1
    simp only [num1, hx]
    exact h2)
  simpa using h1
/-- 'm[x] = v'. -/
theorem MapIs.store {m blocks size : Nat} {f : Int → Option (List UInt8)} (h : MapIs w F m blocks size f) (hn : blocks ≤ 100000) {x : Int} (h0 : 0 ≤ x) (h1 : x < blocks) (hv : Dat w F v l) (hl : l.length = size) :
    ∃ w', (Instr.mapUpdate 99 (.map (some m)) (.int .i64 x) v).run Try.prog w = .ok () w' ∧ MapIs w' F m blocks size (upd f x l) ∧ w.grownBy w' (some m) := by
  obtain ⟨hF, D, ho, hk, hf⟩ := h
  have hm := MapIs.small ho hk
  obtain ⟨g, c, rfl, hov, hFg⟩ := hv
  obtain ⟨w', hrun, ho', hg⟩ := ho.update key3 (by kernel_rfl : Try.prog.underlying 99 = some (.map 3 41)) (by unfold maxLen; omega) (key_in h0 h1 hn) (Rv_dv g l.length c)
  refine ⟨w', hrun, ⟨hF, _, ownsMap_tight ho', fun kl hkl => ?_, fun y hy0 hy1 => ?_⟩, hg⟩
  · by_cases e : kl = .int .i64 x
    · exact ⟨x, e, h0, h1⟩
    · rw [has_put_other e] at hkl
      exact hk kl hkl
  · have hdat : ∀ {u : Value} {r : List UInt8}, Dat w F u r → Dat w' F u r := fun hd => by
      obtain ⟨g1, c1, cs, rfl, hF1, hh⟩ := hd.cells
      obtain ⟨g2, c2, he, ho2, hF2⟩ := hd
      injection he with he
      injection he with he
      injection he with he1
      subst he1
      refine ⟨_, _, rfl, own_same ho2 (fun k hk => ?_), hF2⟩
      cases hk
      refine hg.block _ (lt_of_heap hh) (fun e => ?_)
      injection e with e
      obtain ⟨es, clock, hb, _⟩ := ho
      subst e
      have hh2 := hh.symm.trans hb
      injection hh2 with hh2
      cases hh2
    unfold upd
    by_cases e : y = x
    · subst e
      rw [if_pos rfl]
      refine ⟨hl, has_put_same ho.isMap (by simp [WideAt.IsKeyLit]) _, _, hdat ⟨g, c, rfl, hov, hFg⟩, fun z => atKey_put_same ho.isMap (by simp [WideAt.IsKeyLit]) _ _⟩
    · rw [if_neg e]
      have hne : Lit.int .i64 y ≠ .int .i64 x := by intro h; injection h with _ h; exact e h
      have := hf y hy0 hy1
      cases hx : f y with
      | none => simp only [hx] at this ⊢; rw [has_put_other hne]; exact this
      | some r =>
        simp only [hx] at this ⊢
        obtain ⟨h1, h2, v, h3, h4⟩ := this
        exact ⟨h1, by rw [has_put_other hne]; exact h2, v, hdat h3, fun z => by rw [atKey_put_other hne]; exact h4 z⟩
/-- 'map[int][]byte{}'. -/
theorem MapIs.made (w : World) (F : Nat → Prop) (blocks size : Nat) (hF : F w.heap.size) : MapIs (w.alloc (.map #[] 0)) F w.heap.size blocks size (fun _ => none) :=
  ⟨hF, .map [], World.ownsMap_made w _ _ _, fun kl h => by simp [has_eq] at h, fun x _ _ => by simp [has_eq]⟩
end
end Go.Proofs.Ytbdnoiaglighhaa
