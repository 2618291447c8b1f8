/- Numbers and padded texts in bytes, as plain functions on lists of bytes. No program in sight. -/
namespace Go.Proofs.Ytbdnoiaglighhaa
set_option linter.unusedVariables false
set_option linter.unusedSimpArgs false

/-- The lowest k bytes of a number, the least first. -/
def putB (n : Nat) : Nat → List UInt8
  | 0 => []
  | k + 1 => putB n k ++ [UInt8.ofNat (n / 256 ^ k)]
/-- The number of bytes, the least first. -/
def getB : List UInt8 → Nat
  | [] => 0
  | x :: l => x.toNat + 256 * getB l
/-- A padded text. -/
def padB (l : List UInt8) (most : Nat) : List UInt8 := putB l.length 2 ++ l ++ List.replicate (most - l.length) 0
/-- The text of a padded one. -/
def unpadB (b : List UInt8) (most : Nat) : Option (List UInt8) :=
  if b.length = most + 2 ∧ getB (b.take 2) ≤ most ∧ (b.drop (2 + getB (b.take 2))).all (· == 0) = true then some ((b.drop 2).take (getB (b.take 2))) else none
/-- FNV-1a. -/
def sumStep (h : Nat) (x : UInt8) : Nat := ((h ^^^ x.toNat) * 1099511628211) % 18446744073709551616
def sumB (l : List UInt8) : Nat := l.foldl sumStep 14695981039346656037

theorem putB_length (n k : Nat) : (putB n k).length = k := by
  induction k with
  | zero => rfl
  | succ k ih => simp [putB, ih]
theorem getB_append (a b : List UInt8) : getB (a ++ b) = getB a + 256 ^ a.length * getB b := by
  induction a with
  | nil => simp [getB]
  | cons x a ih => simp only [List.cons_append, getB, ih, List.length_cons, Nat.pow_succ, Nat.mul_add]; rw [Nat.mul_comm (256 ^ a.length) 256, Nat.mul_assoc]; omega
theorem getB_lt (l : List UInt8) : getB l < 256 ^ l.length := by
  induction l with
  | nil => simp [getB]
  | cons x l ih => have := x.toNat_lt; simp only [getB, List.length_cons, Nat.pow_succ]; omega
theorem getB_putB (n k : Nat) : getB (putB n k) = n % 256 ^ k := by
  induction k with
  | zero => simp [putB, getB, Nat.mod_one]
  | succ k ih =>
    rw [putB, getB_append, ih, putB_length]
    have e : (UInt8.ofNat (n / 256 ^ k)).toNat = n / 256 ^ k % 256 := UInt8.toNat_ofNat'
    rw [getB, getB, e, Nat.mul_zero, Nat.add_zero, Nat.pow_succ, Nat.mod_mul]
theorem putB_getB (l : List UInt8) : putB (getB l) l.length = l := by
  suffices h : ∀ k, k ≤ l.length → putB (getB l) k = l.take k by simpa using h l.length (Nat.le_refl _)
  intro k
  induction k with
  | zero => simp [putB]
  | succ k ih =>
    intro hk
    rw [putB, ih (by omega), List.take_succ_eq_append_getElem (by omega)]
    congr 2
    have hsplit : l = l.take k ++ (l[k] :: l.drop (k + 1)) := by rw [← List.drop_eq_getElem_cons]; simp
    have hg : getB l = getB (l.take k) + 256 ^ k * (l[k].toNat + 256 * getB (l.drop (k + 1))) := by
      conv => lhs; rw [hsplit, getB_append]
      rw [List.length_take, Nat.min_eq_left (by omega)]; rfl
    have hlt := getB_lt (l.take k)
    rw [List.length_take, Nat.min_eq_left (by omega)] at hlt
    rw [hg, Nat.add_mul_div_left _ _ (Nat.pow_pos (by decide)), Nat.div_eq_of_lt hlt, Nat.zero_add]
    apply UInt8.toNat.inj
    rw [UInt8.toNat_ofNat']
    have := (l[k]).toNat_lt
    omega
theorem sumB_lt (l : List UInt8) : sumB l < 18446744073709551616 := by
  unfold sumB
  suffices h : ∀ h0, h0 < 18446744073709551616 → l.foldl sumStep h0 < 18446744073709551616 by exact h _ (by omega)
  induction l with
  | nil => intro h0 hh; exact hh
  | cons x l ih => intro h0 _; exact ih _ (Nat.mod_lt _ (by omega))
theorem padB_length (l : List UInt8) (most : Nat) (h : l.length ≤ most) : (padB l most).length = most + 2 := by
  simp [padB, putB_length]; omega
theorem unpad_pad (l : List UInt8) (most : Nat) (h : l.length ≤ most) (hm : most < 65536) : unpadB (padB l most) most = some l := by
  have e1 : (padB l most).take 2 = putB l.length 2 := by
    unfold padB; rw [List.append_assoc, List.take_append_of_le_length (by simp [putB_length]), List.take_of_length_le (by simp [putB_length])]
  have e2 : getB (putB l.length 2) = l.length := by rw [getB_putB]; exact Nat.mod_eq_of_lt (by omega)
  have e3 : (padB l most).drop 2 = l ++ List.replicate (most - l.length) 0 := by
    unfold padB; rw [List.append_assoc, List.drop_append_of_le_length (by simp [putB_length]), List.drop_of_length_le (by simp [putB_length]), List.nil_append]
  have e4 : (padB l most).drop (2 + l.length) = List.replicate (most - l.length) 0 := by
    rw [← List.drop_drop, e3, List.drop_left]
  unfold unpadB
  rw [e1, e2, e3, e4, padB_length l most h, if_pos ⟨rfl, h, by simp⟩, List.take_left]
end Go.Proofs.Ytbdnoiaglighhaa
