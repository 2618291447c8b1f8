/- Two arrays of bytes that are one and the same are equal. No statement is proved here. -/
import Derived.Test.YtbdnoiaglighhaaBack
import Derived.ChangeKeysEq
namespace Go.Proofs.Ytbdnoiaglighhaa
set_option linter.unusedVariables false
set_option linter.unusedSimpArgs false

theorem eqItems_same (x : List UInt8) (w : World) : ∀ (is : List Nat), (∀ i ∈ is, i < x.length) → (Op.eqItems 9999 5 1 (bs x).toArray (bs x).toArray is).run Try.prog w = .ok true w
  | [], _ => by simp [Op.eqItems]
  | i :: is, h => by
    have hi := h i List.mem_cons_self
    have hx : (bs x).toArray[i * 1]? = some (byt x[i]) := by simp [hi]
    have hp := run_part_plain (P := Try.prog) w (e := 5) (by kernel_rfl) hx
    have he : (Op.equalIn 9999 5 (byt x[i]) (byt x[i])).run Try.prog w = .ok true w := by
      have := run_equalIn_int (P := Try.prog) w 9998 5 .u8 .u8 (x[i].toNat : Int) (x[i].toNat : Int) Try.underlying5
      simpa [byt] using this
    simp only [Op.eqItems, Sem.run_bind, hp, he, Result.andThen_ok]
    simpa using eqItems_same x w is (fun j hj => h j (List.mem_cons_of_mem _ hj))
theorem eq48_same (x : List UInt8) (hx : x.length = 12) (w : World) : (Op.equalIn 10000 48 (.agg (bs x).toArray) (.agg (bs x).toArray)).run Try.prog w = .ok true w := by
  obtain ⟨i, hi, _⟩ := info_parts S41.2.1
  rw [run_equalIn_array w 9999 _ _ Try.underlying48 hi, show Try.prog.cellsOf 5 = 1 by kernel_rfl]
  exact eqItems_same x w _ (fun j hj => by rw [hx]; simpa using hj)
end Go.Proofs.Ytbdnoiaglighhaa
