/- What was sealed is opened as it was. Plain. No statement is proved here. -/
import Derived.Test.YtbdnoiaglighhaaROpen
namespace Go.Proofs.Ytbdnoiaglighhaa
set_option linter.unusedVariables false
set_option linter.unusedSimpArgs false

theorem hdB_take (boot seq : Nat) (hb : boot < 4294967296) : getB ((hdB boot seq).take 4) = boot := by
  unfold hdB
  rw [List.take_left' (putB_length _ _), getB_putB]
  exact Nat.mod_eq_of_lt hb
theorem hdB_drop (boot seq : Nat) (hs : seq < 18446744073709551616) : getB ((hdB boot seq).drop 4) = seq := by
  unfold hdB
  rw [List.drop_left' (putB_length _ _), getB_putB]
  exact Nat.mod_eq_of_lt hs
theorem open_seal (key : List UInt8) (boot seq : Nat) (l : List UInt8) (s : Nat) (hb : boot < 4294967296) (hq : seq < 18446744073709551616) (hl : l.length + 22 ≤ s) (hs : s ≤ 60000) :
    openB key (sealB key boot seq l s) = some (l, boot, seq) := by
  obtain ⟨q, rfl⟩ : ∃ q, s = q + 22 := ⟨s - 22, by omega⟩
  have hlen := sealB_length key boot seq l (q + 22) hl
  have ht : (sealB key boot seq l (q + 22)).take 12 = hdB boot seq := by unfold sealB; rw [List.take_left' (hdB_length _ _)]
  have hd : (sealB key boot seq l (q + 22)).drop 12 = xorA key (hdB boot seq) (bodyB boot seq l (q + 22)) := by unfold sealB; rw [List.drop_left' (hdB_length _ _)]
  have hx : xorA key (hdB boot seq) ((sealB key boot seq l (q + 22)).drop 12) = padB l q ++ putB (sumB (hdB boot seq ++ padB l q)) 8 := by rw [hd, xorA_twice]; rfl
  have hpl : (padB l q).length = q + 2 := padB_length l q (by omega)
  rw [openB_eq key _ (hdB boot seq) _ q hlen ht.symm hx.symm, List.take_left' hpl, List.drop_left' hpl, unpad_pad l q (by omega) (by omega)]
  simp [hdB_take boot seq hb, hdB_drop boot seq hq]
end Go.Proofs.Ytbdnoiaglighhaa
