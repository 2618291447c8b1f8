/- Words on memory that all texts of this seat use: bytes that a slice reads as; blocks that are known whole; what a call leaves alone. No statement is proved here. -/
import Derived.Test.YtbdnoiaglighhaaProg
import Derived.WalkKit
import Derived.Deep.Draws
import Derived.Deep.QuietTactic
import Derived.BigQuiet
import Derived.KernelRfl
import Derived.Lib.Hide
import Derived.Deep.AppendLies
import Derived.Maps.AppendAt
import Derived.Deep.DeepMust
import Derived.Deep.LoopGhost
namespace Go.Proofs.Ytbdnoiaglighhaa
set_option linter.unusedVariables false
set_option linter.unusedSimpArgs false
open Go.RowKit

/-- A byte as a value. -/
def byt (x : UInt8) : Value := .int .u8 (x.toNat : Int)
theorem byt_eq (x : UInt8) : byt x = .int .u8 (x.toNat : Int) := rfl
theorem byt_one (x : UInt8) : (byt x).oneCell' = true := rfl
theorem byte_lt (x : UInt8) : x.toNat < 256 := x.toNat_lt
abbrev bs (l : List UInt8) : List Value := l.map byt
theorem bs_one (l : List UInt8) : ∀ u ∈ bs l, u.oneCell' = true := by
  intro u hu
  obtain ⟨x, _, rfl⟩ := List.mem_map.1 hu
  rfl

/-- The slice value '.slice A n c' of one-cell elements reads as the cells xs in w. -/
def Rd (w : World) (A : Option Addr) (xs : List Value) : Prop :=
  0 < xs.length → ∃ b o, A = some ⟨b, o, none⟩ ∧ ∃ cs t fr, w.heap[b]? = some (.cells cs t fr) ∧ ∀ i, i < xs.length → cs[o + i]? = xs[i]?

/-- As 'Rd', and the block lies below B. -/
def RdB (w : World) (B : Nat) (A : Option Addr) (xs : List Value) : Prop :=
  0 < xs.length → ∃ b o, A = some ⟨b, o, none⟩ ∧ b < B ∧ ∃ cs t fr, w.heap[b]? = some (.cells cs t fr) ∧ ∀ i, i < xs.length → cs[o + i]? = xs[i]?

section
variable {w w' : World} {B B' : Nat} {A : Option Addr} {xs : List Value}
theorem lt_of_heap {o : Obj} {b : Nat} (h : w.heap[b]? = some o) : b < w.heap.size := by
  rcases Nat.lt_or_ge b w.heap.size with hlt | hge
  · exact hlt
  · rw [Array.getElem?_eq_none hge] at h; cases h
theorem Rd.cell (h : Rd w A xs) {k : Nat} (hk : k < xs.length) : ∃ b o, A = some ⟨b, o, none⟩ ∧ w.cell? ⟨b, o + k, none⟩ = some xs[k] := by
  obtain ⟨b, o, rfl, cs, t, fr, hb, hc⟩ := h (by omega)
  refine ⟨b, o, rfl, ?_⟩
  have := hc k hk
  simp [World.cell?, hb, this, List.getElem?_eq_getElem hk]
theorem Rd.keep (h : Rd w A xs) (hk : ∀ b, b < w.heap.size → w'.heap[b]? = w.heap[b]?) : Rd w' A xs := by
  intro hn
  obtain ⟨b, o, rfl, cs, t, fr, hb, hc⟩ := h hn
  exact ⟨b, o, rfl, cs, t, fr, (hk b (lt_of_heap hb)).trans hb, hc⟩
theorem Rd.below (h : Rd w A xs) (hb : Below w.heap.size w w') : Rd w' A xs := h.keep hb.block
theorem Rd.drewN (h : Rd w A xs) (n : Nat) : Rd (w.drewN n) A xs := h
theorem Rd.nil (w : World) (A : Option Addr) : Rd w A [] := fun h => absurd h (by simp)
theorem Rd.alloc (h : Rd w A xs) (o : Obj) : Rd (w.alloc o) A xs := h.keep fun b hb => Below.heap_alloc w o b hb
theorem Rd.of_own {base : Nat} {e : TypeId} {n c : Nat} (h : w.ownsRow base e 1 (.slice A n c) n xs) : Rd w A xs := by
  intro hn
  rcases h.2 with ⟨hv, h0⟩ | ⟨g, cap, cur, hv, _, hh, hnc, _, hcs, htake⟩
  · have := h.1; omega
  · have hA : A = some ⟨g, 0, none⟩ := by injection hv
    subst hA
    refine ⟨g, 0, rfl, cur, e, (0, 0), hh, fun i hi => ?_⟩
    rw [← htake] at hi ⊢
    rw [List.getElem?_take_of_lt (by simp at hi; omega)]
    simp
end

end Go.Proofs.Ytbdnoiaglighhaa
