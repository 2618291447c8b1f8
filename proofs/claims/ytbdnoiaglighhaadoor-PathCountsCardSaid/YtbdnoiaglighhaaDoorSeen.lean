/- How often each bucket is met: the map that PathCounts fills, plain. No statement is proved here. -/
import Derived.Test.YtbdnoiaglighhaaDoorOn
import Derived.Maps.RangeWalk
import Derived.Maps.OwnOps
import Derived.Maps.OwnSet
namespace Go.Proofs.YtbdnoiaglighhaaDoor
set_option linter.unusedVariables false
set_option linter.unusedSimpArgs false
open Go.RowKit Go.Maps

abbrev num (c : Int) : DataW Unit := .lit (.int .i64 c)
def keyZ (b l : Nat) (i : Int) : Int := (2 : Int) ^ l - 1 + i / 2 ^ (b - l)
def cnt (D : DataW Unit) (x : Int) : Int := match D.atKey (.int .i64 x) (num 0) with | .lit (.int .i64 c) => c | _ => 0
/-- The map behind so many rounds. -/
def seen (b l : Nat) : Nat → DataW Unit
  | 0 => .map []
  | i + 1 => (seen b l i).put (.int .i64 (keyZ b l i)) (num (cnt (seen b l i) (keyZ b l i) + 1))
theorem seen_isMap (b l : Nat) : ∀ i, IsMap (seen b l i)
  | 0 => isMap_empty
  | i + 1 => (seen_isMap b l i).put _ _
theorem cnt_put (D : DataW Unit) (hD : IsMap D) (x y c : Int) : cnt (D.put (.int .i64 x) (num c)) y = if y = x then c else cnt D y := by
  unfold cnt
  by_cases h : y = x
  · subst h
    rw [atKey_put_same hD (by simp [WideAt.IsKeyLit])]
    simp
  · rw [atKey_put_other (by intro e; injection e with _ e; exact h e)]
    simp [h]
theorem cnt_le (b l : Nat) : ∀ (i : Nat) (y : Int), 0 ≤ cnt (seen b l i) y ∧ cnt (seen b l i) y ≤ i
  | 0, y => by simp [seen, cnt, DataW.atKey]
  | i + 1, y => by
    have h1 := cnt_le b l i (keyZ b l i)
    have h2 := cnt_le b l i y
    rw [seen, cnt_put _ (seen_isMap b l i)]
    split <;> omega
/-- What is met at the end: each bucket of the level as often as it should be. -/
def fine (b l : Nat) : Bool := match seen b l (2 ^ b) with
  | .map es => es.length == 2 ^ l && es.all fun p => match p with
    | (.int .i64 x, .lit (.int .i64 c)) => c == (2 : Int) ^ (b - l) && decide ((2 : Int) ^ l - 1 ≤ x) && decide (x ≤ 2 * (2 : Int) ^ l - 2)
    | _ => false
  | _ => false
theorem all_fine : ((List.range 8).all fun b => (List.range (b + 1)).all fun l => fine b l) = true := by kernel_rfl
/-- Where two numbers first part. -/
def firstOff (b x y : Nat) : Nat := (List.range b).findIdx fun t => x / 2 ^ (b - 1 - t) != y / 2 ^ (b - 1 - t)
theorem all_meet : ((List.range 8).all fun b => (List.range (2 ^ b)).all fun x => (List.range (2 ^ b)).all fun y => meetOf b x y == (firstOff b x y : Int)) = true := by kernel_rfl
theorem fine_of (b l : Nat) (hb : b < 8) (hl : l ≤ b) : fine b l = true := by
  have h := List.all_eq_true.1 all_fine b (by simpa using hb)
  exact List.all_eq_true.1 h l (by simp; omega)
theorem meet_of (b x y : Nat) (hb : b < 8) (hx : x < 2 ^ b) (hy : y < 2 ^ b) : meetOf b x y = (firstOff b x y : Int) := by
  have h := List.all_eq_true.1 all_meet b (by simpa using hb)
  have h := List.all_eq_true.1 h x (by simpa using hx)
  have h := List.all_eq_true.1 h y (by simpa using hy)
  simpa using h
theorem first_is (b x y k : Nat) (hk : k ≤ b) (h1 : ∀ t, t < k → x / 2 ^ (b - 1 - t) = y / 2 ^ (b - 1 - t)) (h2 : k = b ∨ x / 2 ^ (b - 1 - k) ≠ y / 2 ^ (b - 1 - k)) : firstOff b x y = k := by
  unfold firstOff
  rcases Nat.lt_or_ge k b with hlt | hge
  · have hne : x / 2 ^ (b - 1 - k) ≠ y / 2 ^ (b - 1 - k) := h2.resolve_left (by omega)
    rw [List.findIdx_eq (by simpa using hlt)]
    refine ⟨by simpa using hne, fun j hj => ?_⟩
    simpa using h1 j hj
  · obtain rfl : k = b := by omega
    rw [List.findIdx_eq_length.2, List.length_range]
    intro t ht
    simpa using h1 t (by simpa using ht)
/-- The size of the map, and what each of its entries is. -/
theorem seen_size (b l : Nat) (hb : b < 8) (hl : l ≤ b) : Maps.size (seen b l (2 ^ b)) = 2 ^ l := by
  have h := fine_of b l hb hl
  unfold fine at h
  cases hD : seen b l (2 ^ b) <;> rw [hD] at h <;> simp at h
  rw [size_eq]
  exact h.1
theorem seen_each (b l : Nat) (hb : b < 8) (hl : l ≤ b) (x c : Int) (h : ∀ zd, (seen b l (2 ^ b)).atKey (.int .i64 x) zd = num c) (hh : Maps.has (seen b l (2 ^ b)) (.int .i64 x) = true) :
    c = (2 : Int) ^ (b - l) ∧ (2 : Int) ^ l - 1 ≤ x ∧ x ≤ 2 * (2 : Int) ^ l - 2 := by
  have hf := fine_of b l hb hl
  unfold fine at hf
  cases hD : seen b l (2 ^ b) <;> rw [hD] at hf h hh <;> simp only [Bool.false_eq_true] at hf
  rename_i es
  simp only [Bool.and_eq_true, List.all_eq_true, beq_iff_eq] at hf
  obtain ⟨_, hf⟩ := hf
  rw [has_eq] at hh
  obtain ⟨p, hp, hs⟩ := List.any_eq_true.1 hh
  have hz := h (num 0)
  unfold DataW.atKey at hz
  cases hq : es.find? (fun p => p.1.sameKey (.int .i64 x)) with
  | none =>
    have := List.find?_eq_none.1 hq p hp
    exact absurd hs this
  | some q =>
    simp only [hq] at hz
    have hqm := List.mem_of_find?_eq_some hq
    have hqs := List.find?_some hq
    have hkey : q.1 = .int .i64 x := (WideAt.sameKey_iff (by simp [WideAt.IsKeyLit])).1 hqs
    obtain ⟨q1, q2⟩ := q
    simp only at hkey hz
    subst hkey hz
    have := hf _ hqm
    simp only [Bool.and_eq_true, beq_iff_eq, decide_eq_true_eq] at this
    exact ⟨this.1.1, this.1.2, this.2⟩
end Go.Proofs.YtbdnoiaglighhaaDoor
