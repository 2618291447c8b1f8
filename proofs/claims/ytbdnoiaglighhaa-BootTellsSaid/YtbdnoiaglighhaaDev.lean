/- A device, plain: what was flushed, what stands there now, what was not flushed, when the power goes, what was done. No statement is proved here. -/
import Derived.Test.YtbdnoiaglighhaaMem
namespace Go.Proofs.Ytbdnoiaglighhaa
set_option linter.unusedVariables false

/-- Something that was done. -/
structure Ev where
  kind : Int
  place : Int
  head : List UInt8
  body : Option (List UInt8)
/-- A device. -/
structure Dev where
  blocks : Nat
  size : Nat
  stable : Int → Option (List UInt8)
  now : Int → Option (List UInt8)
  loose : List (Int × List UInt8)
  after : Int
  off : Bool
  trace : List Ev

/-- Cut to so many, or filled with noughts. -/
def fit (n : Nat) (b : List UInt8) : List UInt8 := b.take n ++ List.replicate (n - b.length) 0
theorem fit_length (n : Nat) (b : List UInt8) : (fit n b).length = n := by simp [fit]; omega
theorem fit_same (n : Nat) (b : List UInt8) (h : b.length = n) : fit n b = b := by subst h; simp [fit]
/-- One place turned. -/
def upd (f : Int → Option (List UInt8)) (x : Int) (l : List UInt8) : Int → Option (List UInt8) := fun y => if y = x then some l else f y
namespace Dev
/-- A new device. -/
def fresh (blocks size : Nat) : Dev := { blocks := blocks, size := size, stable := fun _ => none, now := fun _ => none, loose := [], after := -1, off := false, trace := [] }
def has (S : Dev) (x : Int) : Prop := 0 ≤ x ∧ x < S.blocks
instance (S : Dev) (x : Int) : Decidable (S.has x) := inferInstanceAs (Decidable (_ ∧ _))
/-- What stands at a place. -/
def block (S : Dev) (f : Int → Option (List UInt8)) (x : Int) : List UInt8 := if S.has x then (f x).getD (List.replicate S.size 0) else []
def note (S : Dev) (kind place : Int) (b : List UInt8) (body : Option (List UInt8)) : Dev := { S with trace := S.trace ++ [⟨kind, place, fit 12 b, body⟩] }
def live (S : Dev) : Prop := S.off = false ∧ S.after ≠ 0
def tick (S : Dev) : Dev := { S with after := if 0 < S.after then S.after - 1 else S.after }
def dead (S : Dev) : Dev := { S with off := true }
def read (S : Dev) (x : Int) : Dev := S.tick.note 1 x (S.block S.now x) none
def write (S : Dev) (x : Int) (b : List UInt8) : Dev :=
  let T := S.tick.note 2 x (fit S.size b) (some (fit S.size b))
  if S.has x then { T with now := upd S.now x (fit S.size b), loose := S.loose ++ [(x, fit S.size b)] } else T
/-- The writes that were not flushed, laid over what was. -/
def over (f : Int → Option (List UInt8)) (l : List (Int × List UInt8)) : Int → Option (List UInt8) := l.foldl (fun g p => upd g p.1 p.2) f
def flush (S : Dev) : Dev := { S.tick.note 3 0 [] none with stable := over S.stable S.loose, loose := [] }
def cut (S : Dev) (n : Int) : Dev := { S with after := max n (-1) }
def garbled (b : List UInt8) : List UInt8 := b.map (· ^^^ 165)
/-- Which choice a write has. -/
def choice (l : List Int) (i : Nat) : Int := if i < l.length then l.getD i 0 % 3 else 0
/-- One write, by its choice. -/
def chosen (f : Int → Option (List UInt8)) (c : Int) (p : Int × List UInt8) : Int → Option (List UInt8) := if c = 0 then upd f p.1 p.2 else if c = 2 then upd f p.1 (garbled p.2) else f
/-- The first so many writes, each by its choice. -/
def crashTo (l : List Int) (ps : List (Int × List UInt8)) (f : Int → Option (List UInt8)) : Nat → Int → Option (List UInt8)
  | 0 => f
  | k + 1 => chosen (crashTo l ps f k) (choice l k) (ps.getD k (0, []))
def crash (S : Dev) (l : List Int) : Dev :=
  let s := crashTo l S.loose S.stable S.loose.length
  { S with stable := s, now := s, loose := [], after := -1, off := false }.note 4 0 [] none
end Dev
end Go.Proofs.Ytbdnoiaglighhaa
