/- What Xor gives, as a plain function; a store into a slice that a call owns. No statement is proved here. -/
import Derived.Test.YtbdnoiaglighhaaChacG
import Derived.Lib.SmallJoins
namespace Go.Proofs.Ytbdnoiaglighhaa
set_option linter.unusedVariables false
set_option linter.unusedSimpArgs false
open Go.RowKit

/-- The stream's byte i. -/
def strm (key nonce : List UInt8) (i : Nat) : UInt8 := (blockB key nonce (UInt32.ofNat (i / 64))).getD (i % 64) 0
/-- The first n bytes turned. -/
def xorN (key nonce : List UInt8) (n : Nat) (b : List UInt8) : List UInt8 := b.mapIdx fun i x => if i < n then x ^^^ strm key nonce i else x
/-- All of them. -/
def xorA (key nonce b : List UInt8) : List UInt8 := xorN key nonce b.length b
theorem xorN_length (key nonce : List UInt8) (n : Nat) (b : List UInt8) : (xorN key nonce n b).length = b.length := by simp [xorN]
theorem xorA_length (key nonce b : List UInt8) : (xorA key nonce b).length = b.length := xorN_length ..
theorem xorN_zero (key nonce : List UInt8) (b : List UInt8) : xorN key nonce 0 b = b := by
  apply List.ext_getElem
  · simp [xorN]
  · intro i h1 h2; simp [xorN]
theorem xorN_get (key nonce : List UInt8) (n : Nat) (b : List UInt8) (i : Nat) (h : i < (xorN key nonce n b).length) : (xorN key nonce n b)[i] = if i < n then b[i]'(by rwa [xorN_length] at h) ^^^ strm key nonce i else b[i]'(by rwa [xorN_length] at h) := by simp [xorN]
theorem xorN_succ (key nonce : List UInt8) (n : Nat) (b : List UInt8) (h : n < b.length) : xorN key nonce (n + 1) b = (xorN key nonce n b).set n (b[n] ^^^ strm key nonce n) := by
  apply List.ext_getElem
  · simp [xorN]
  · intro i h1 h2
    rw [xorN_get, List.getElem_set, xorN_get]
    rcases Nat.lt_trichotomy i n with h3 | rfl | h3
    · rw [if_pos (by omega), if_neg (by omega), if_pos h3]
    · simp
    · rw [if_neg (by omega), if_neg (by omega), if_neg (by omega)]
theorem xorA_get (key nonce : List UInt8) (b : List UInt8) (i : Nat) (h : i < (xorA key nonce b).length) : (xorA key nonce b)[i] = b[i]'(by rwa [xorA_length] at h) ^^^ strm key nonce i := by
  rw [xorA_length] at h
  simp [xorA, xorN, h]
theorem xorN_ge (key nonce : List UInt8) (n : Nat) (b : List UInt8) (h : b.length ≤ n) : xorN key nonce n b = xorA key nonce b := by
  apply List.ext_getElem
  · simp [xorN, xorA]
  · intro i h1 h2
    rw [xorN_length] at h1
    rw [xorN_get, xorA_get, if_pos (by omega)]
/-- Twice is nothing. -/
theorem xorA_twice (key nonce b : List UInt8) : xorA key nonce (xorA key nonce b) = b := by
  apply List.ext_getElem
  · rw [xorA_length, xorA_length]
  · intro i h1 h2
    rw [xorA_get, xorA_get, UInt8.xor_assoc, UInt8.xor_self, UInt8.xor_zero]

section
variable {w : World} {base : Nat} {e : TypeId} {g n cap : Nat} {xs : List Value}
theorem own_put (h : w.ownsRow base e 1 (.slice (some ⟨g, 0, none⟩) n cap) n xs) {j : Nat} (hj : j < n) :
    ∃ cs, Blk w g e cs ∧ n ≤ cs.length ∧ (∀ i, i < n → cs[i]? = xs[i]?) ∧ ∀ w' u, Blk w' g e (lay cs j [u]) → w'.ownsRow base e 1 (.slice (some ⟨g, 0, none⟩) n cap) n (xs.set j u) := by
  rcases h.2 with ⟨hv, _⟩ | ⟨g', cap', cur, hv, hg, hh, hnc, hm, hcs, htake⟩
  · cases hv
  · injection hv with h1 _ h3
    injection h1 with h1
    injection h1 with h1
    subst h1 h3
    have hlen : n ≤ cur.toList.length := by simp; omega
    refine ⟨cur.toList, by unfold Blk; simpa using hh, hlen, fun i hi => ?_, fun w' u hb => ⟨by simpa using h.1, .inr ⟨g, cap, (lay cur.toList j [u]).toArray, rfl, hg, hb, hnc, hm, ?_, ?_⟩⟩⟩
    · rw [← htake, List.getElem?_take_of_lt (by omega)]
    · rw [lay_one _ _ _ (by omega)]; simpa using hcs
    · rw [lay_one _ _ _ (by omega), ← htake]
      simp [List.take_set]
end
end Go.Proofs.Ytbdnoiaglighhaa
