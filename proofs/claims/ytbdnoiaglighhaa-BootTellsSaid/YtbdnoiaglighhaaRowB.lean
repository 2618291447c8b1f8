/- What a law's row has of its arguments: a slice of bytes that came in, and how long it can be at most. No statement is proved here. -/
import Derived.Test.YtbdnoiaglighhaaRows
import Derived.Test.YtbdnoiaglighhaaRowIn
import Derived.WalkKit
import Derived.ProofKit
import Derived.OpenShut
import Derived.ChangeOld
import Derived.Below
import Derived.SizedLaws
namespace Go.Proofs.Ytbdnoiaglighhaa
open Go.ChangeShapes Go.WideShapes Go.ChangeAt Go.RowKit
set_option linter.unusedVariables false

theorem ownTry : ownKnob Try.prog.godebug = none := by kernel_rfl
theorem laidOutTry : laidOutB Try.prog = true := by kernel_rfl
theorem key58 : WideMaps.ArrKey Try.prog 58 5 32 := ⟨Try.underlying58, by kernel_rfl, by kernel_rfl, by kernel_rfl⟩
theorem bytes5 : Try.prog.bytesOf 5 = 1 := by kernel_rfl

/-- What the walk is told of a slice of bytes that came in. -/
theorem bytes_in {H : Type} {enc : TypeId × Value → H} {W : World} {a : Option Addr} {len cap : Nat} {d : DataW H} {ps : List MemPlace} (h : DataW.Trod enc Try.prog W 0 (fun _ => true) true 41 (.slice a len cap) d ps) :
    ∃ l : List UInt8, l.length = len ∧ len ≤ cap ∧ Rd W a (bs l) ∧ (len = 0 ∨ ∃ es sp, d = .slice es sp ∧ len ≤ es.length + sp.length) := by
  obtain ⟨fuel, hf⟩ := h
  rcases open_ints Try.underlying41 Try.underlying5 (by kernel_rfl) hf with ⟨hcs, _⟩ | ⟨x, l, c, zs, hcs, _, hl, hm, hz, hx, hcell, hwz⟩
  · simp [Value.cells] at hcs
    obtain ⟨rfl, rfl, rfl⟩ := hcs
    exact ⟨[], rfl, Nat.le_refl _, .nil _ _, .inl rfl⟩
  · simp [Value.cells] at hcs
    obtain ⟨rfl, rfl, rfl⟩ := hcs
    have hz' : zs.length = cap := by simpa using hz
    obtain ⟨l, h1, h2⟩ := rd_row (len := len) (by omega) hcell hwz
    injection hx with hd _
    exact ⟨l, h1, hl, h2, .inr ⟨_, _, hd, by simp [lits]; omega⟩⟩
/-- .. is within the form's reach. -/
theorem bytes_reach {H : Type} {ts : List TypeId} {ds : List (DataW H)} (h : (DataW.weightsEach Try.prog ts ds).all (· ≤ reachBytes) = true) {j : Nat} {d : DataW H} {len : Nat} (ht : ts[j]? = some 41) (hd : ds[j]? = some d)
    (hl : len = 0 ∨ ∃ es sp, d = .slice es sp ∧ len ≤ es.length + sp.length) : len ≤ 140737488351232 := by
  rcases hl with rfl | ⟨es, sp, rfl, hle⟩
  · omega
  · have := sized_slice h ht hd Try.underlying41
    rw [bytes5, reachBytes] at this
    omega
end Go.Proofs.Ytbdnoiaglighhaa
