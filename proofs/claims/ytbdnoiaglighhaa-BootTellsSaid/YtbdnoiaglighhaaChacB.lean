/- ChaCha20's block and what is exclusive-ored with it, as plain functions. No program in sight. -/
import Derived.Test.YtbdnoiaglighhaaChac
namespace Go.Proofs.Ytbdnoiaglighhaa
def wordAt (l : List UInt8) (k : Nat) : UInt32 := UInt32.ofNat (getB ((l.drop (4 * k)).take 4))
def wordsTo (l : List UInt8) : Nat → List UInt32
  | 0 => []
  | k + 1 => wordsTo l k ++ [wordAt l k]
def head4 : List UInt32 := [1634760805, 857760878, 2036477234, 1797285236]
/-- The state that a block begins with. -/
def initS (key nonce : List UInt8) (ctr : UInt32) : List UInt32 := head4 ++ wordsTo key 8 ++ [ctr] ++ wordsTo nonce 3
def blockTo (s t : List UInt32) : Nat → List UInt8
  | 0 => []
  | k + 1 => blockTo s t k ++ putB (s.getD k 0 + t.getD k 0).toNat 4
/-- A block of the stream. -/
def blockB (key nonce : List UInt8) (ctr : UInt32) : List UInt8 := blockTo (initS key nonce ctr) (dblTo (initS key nonce ctr) 10) 16
theorem wordsTo_length (l : List UInt8) (k : Nat) : (wordsTo l k).length = k := by
  induction k with
  | zero => rfl
  | succ k ih => simp [wordsTo, ih]
theorem initS_length (key nonce : List UInt8) (ctr : UInt32) : (initS key nonce ctr).length = 16 := by simp [initS, wordsTo_length, head4]
theorem blockTo_length (s t : List UInt32) (k : Nat) : (blockTo s t k).length = 4 * k := by
  induction k with
  | zero => rfl
  | succ k ih => simp [blockTo, ih, putB_length]; omega
theorem blockB_length (key nonce : List UInt8) (ctr : UInt32) : (blockB key nonce ctr).length = 64 := blockTo_length _ _ 16
/-- Bytes, exclusive or with a block's. -/
def xorZ (b s : List UInt8) : List UInt8 := List.zipWith (· ^^^ ·) b s
/-- Bytes, exclusive or with the stream from a counter on: block by block. -/
def xorB (key nonce : List UInt8) (ctr : UInt32) : Nat → List UInt8 → List UInt8
  | 0, _ => []
  | n + 1, b => xorZ (b.take 64) (blockB key nonce ctr) ++ xorB key nonce (ctr + 1) n (b.drop 64)
end Go.Proofs.Ytbdnoiaglighhaa
