/- What a law's walk is told of its arguments: an array of bytes by value; a slice of bytes. No statement is proved here. -/
import Derived.Test.YtbdnoiaglighhaaLaws
import Derived.WideKeyArr2
import Derived.ProofKit
import Derived.OpenShut
import Derived.ChangeOld
import Derived.Below
namespace Go.Proofs.Ytbdnoiaglighhaa
set_option linter.unusedVariables false
set_option linter.unusedSimpArgs false
open Go.ChangeShapes Go.WideShapes Go.ChangeAt Go.RowKit

theorem byte_of (a : Int) (h : (Lit.int .u8 a).wf = true) : Value.int .u8 a = byt (UInt8.ofNat a.toNat) := by
  simp only [Lit.wf, IntKind.min, IntKind.max, IntKind.signed, IntKind.bits, Bool.and_eq_true, decide_eq_true_eq, if_true, Bool.false_eq_true, if_false] at h
  unfold byt
  congr 1
  rw [UInt8.toNat_ofNat']
  omega
section
variable {H : Type} {enc : TypeId × Value → H} {P : Program} {k e : TypeId} {n : Nat} {W : World} {base : Nat} {sp : Nat → Bool} {held : Bool}
theorem mapM_bytes (he : P.underlying e = some (.int .u8)) {m : Nat} {cs : List Value} : ∀ (L : List Nat) (xs : List (DataW H × List MemPlace)),
    L.mapM (fun i => DataW.trod enc P W base sp held m e ((cs.drop (i * 1)).take 1)) = some xs → ∃ f : Nat → UInt8, ∀ i ∈ L, (cs.drop i).take 1 = [byt (f i)]
  | [], xs, h => ⟨fun _ => 0, fun i hi => by cases hi⟩
  | i :: L, xs, h => by
    rw [List.mapM_cons] at h
    simp only [bind, Option.bind_eq_some_iff, pure, Option.some.injEq] at h
    obtain ⟨y, hy, ys, hys, rfl⟩ := h
    obtain ⟨f, hf⟩ := mapM_bytes he L ys hys
    obtain ⟨a, ea, _, wa⟩ := DataW.trod_int he hy
    refine ⟨fun j => if j = i then UInt8.ofNat a.toNat else f j, fun j hj => ?_⟩
    by_cases hji : j = i
    · subst hji
      rw [Nat.mul_one] at ea
      simp only [if_true]
      rw [ea, byte_of a wa]
    · rcases List.mem_cons.1 hj with h | h
      · exact absurd h hji
      · simp only [if_neg hji]
        exact hf j h
/-- An array of bytes that came in by value. -/
theorem open_barr (A : WideMaps.ArrKey P k e n) (he : P.underlying e = some (.int .u8)) {r : Reach} {b0 : Nat} {v : Value} {d : DataW H} {ps : List MemPlace} (hv : Value.okWide P W r b0 k v) (hd : DataW.Trod enc P W base sp held k v d ps) :
    ∃ l : List UInt8, l.length = n ∧ v = .agg (bs l).toArray := by
  obtain ⟨xs, rfl, hn⟩ := WideMaps.okWide_arr A hv
  obtain ⟨fuel, hf⟩ := hd
  cases fuel with
  | zero => simp [DataW.trod] at hf
  | succ m =>
    rw [DataW.trod_step] at hf
    unfold DataW.trodStep at hf
    simp only [A.hu, Value.cells] at hf
    rw [if_pos (by rw [A.size]; simpa using hn)] at hf
    simp only [Option.map_eq_some_iff, A.one] at hf
    obtain ⟨ys, hy, _⟩ := hf
    obtain ⟨f, hfl⟩ := mapM_bytes he _ ys hy
    refine ⟨(List.range n).map f, by simp, ?_⟩
    congr 1
    apply Array.ext'
    apply List.ext_getElem
    · simp [hn]
    · intro i h1 h2
      have hi : i < n := by simpa [hn] using h1
      have := hfl i (by simpa using hi)
      have h3 : (xs.toList.drop i).take 1 = [xs.toList[i]] := by
        rw [List.drop_eq_getElem_cons h1]; rfl
      rw [h3] at this
      injection this with this _
      simpa using this
/-- A slice of bytes that came in reads as a list. -/
theorem rd_row {a : Addr} {len : Nat} {zs : List Int} (hl : len ≤ zs.length) (hcell : ∀ i, i < zs.length → W.cell? (a.add i) = some (.int .u8 (zs.getD i 0))) (hw : ∀ z ∈ zs, (Lit.int .u8 z).wf = true) :
    ∃ l : List UInt8, l.length = len ∧ Rd W (some a) (bs l) := by
  refine ⟨(zs.take len).map fun z => UInt8.ofNat z.toNat, by simp [hl], fun h0 => ?_⟩
  have hpos : 0 < len := by simpa [hl] using h0
  obtain ⟨b, o, sp⟩ := a
  have h1 := hcell 0 (by omega)
  have hsp : sp = none := by
    cases sp with
    | none => rfl
    | some x => simp [World.cell?, Addr.add] at h1; split at h1 <;> simp at h1
  subst hsp
  have hb : ∃ cs t fr, W.heap[b]? = some (.cells cs t fr) := by
    rw [add_lit] at h1
    unfold World.cell? at h1
    cases ho : W.heap[b]? with
    | none => simp [ho] at h1
    | some ob => cases ob <;> simp [ho] at h1 ⊢
  obtain ⟨cs, t, fr, hb⟩ := hb
  refine ⟨b, o, rfl, cs, t, fr, hb, fun i hi => ?_⟩
  have hi2 : i < len := by simpa [hl] using hi
  have h2 := hcell i (by omega)
  rw [add_lit] at h2
  have h3 : cs[o + i]? = some (.int .u8 (zs.getD i 0)) := by simpa [World.cell?, hb] using h2
  have hz : zs.getD i 0 = zs[i] := by simp [List.getD_eq_getElem?_getD, List.getElem?_eq_getElem (show i < zs.length by omega)]
  rw [h3, hz, byte_of _ (hw _ (List.getElem_mem _))]
  simp [hi2, show i < zs.length by omega]
end
end Go.Proofs.Ytbdnoiaglighhaa
