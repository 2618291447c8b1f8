/- The walks of bytes.HasPrefix, CutPrefix and of both sides' Parse. No statement is proved here. -/
import Derived.Test.YtbdnoiaglighhaaBootW
namespace Go.Proofs.Ytbdnoiaglighhaa
set_option linter.unusedVariables false
set_option linter.unusedSimpArgs false
set_option linter.constructorNameAsVariable false
open Go.RowKit Go.Maps

/-- The number of a block. -/
def parseB (b : List UInt8) : Option Nat :=
  if b.length < 24 then none
  else if getB ((b.drop 12).take 4) = 0 then none
  else if b.take 24 = recB (getB ((b.drop 12).take 4)) ∧ (b.drop 24).all (· == 0) = true then some (getB ((b.drop 12).take 4))
  else none
theorem sl_to {P : Program} {t e : TypeId} (hu : P.underlying t = some (.slice e)) (hs : (P.info? e).map (·.size) = some 1) (b o n c m : Nat) (M : Int) (hM : M = (m : Int)) (hm : m ≤ c) (W : World) :
    (Instr.slice t (.slice (some ⟨b, o, none⟩) n c) none (some (.int .i64 M)) none).run P W = .ok (.slice (some ⟨b, o, none⟩) m c) W := by
  subst hM
  have he : P.elem t = e := by simp [Program.elem, hu]
  have hsz : (sizeOf (P.elem t)).run P W = .ok 1 W := by
    rw [he]
    cases hi : P.info? e with
    | none => simp [hi] at hs
    | some i =>
      have : i.size = 1 := by simpa [hi] using hs
      simp [sizeOf, typeInfo, hi, this]
  rw [run_slice_h (ht := by rw [he]; exact hu) (h0 := by omega) (h2 := by omega), hsz]
  simp [sliced, add_lit]
/-- Where what is behind the first m lies. -/
def behind (A : Option Addr) (c m : Nat) : Option Addr := if c = m then A else A.map (·.add m)
theorem sl_behind {P : Program} {t e : TypeId} (hu : P.underlying t = some (.slice e)) (hs : (P.info? e).map (·.size) = some 1) (A : Option Addr) (n c m : Nat) (M : Int) (hM : M = (m : Int)) (hm : m ≤ n) (hn : n ≤ c) (W : World) :
    (Instr.slice t (.slice A n c) (some (.int .i64 M)) none none).run P W = .ok (.slice (behind A c m) (n - m) (c - m)) W := by
  subst hM
  have he : P.elem t = e := by simp [Program.elem, hu]
  have hsz : (sizeOf (P.elem t)).run P W = .ok 1 W := by
    rw [he]
    cases hi : P.info? e with
    | none => simp [hi] at hs
    | some i =>
      have : i.size = 1 := by simpa [hi] using hs
      simp [sizeOf, typeInfo, hi, this]
  rw [run_slice_l (ht := by rw [he]; exact hu) (h0 := by omega) (h1 := by omega), hsz]
  simp [sliced, behind]
theorem rd_behind {w : World} {A : Option Addr} {l : List UInt8} {c m : Nat} (h : Rd w A (bs l)) (hm : m ≤ l.length) (hc : l.length ≤ c) : Rd w (behind A c m) (bs (l.drop m)) :=
  rd_from h hm hc (fun b o hA hne => by subst hA; unfold behind; rw [if_neg hne]; show some ((⟨b, o, none⟩ : Addr).add m) = _; rw [add_lit])
theorem equal_at (A B : Option Addr) (n m c d : Nat) (l k : List UInt8) (w : World) (hn : l.length = n) (hm : k.length = m) (hl : Rd w A (bs l)) (hk : Rd w B (bs k)) :
    Calls Try.prog 85 #[.slice A n c, .slice B m d] w fun e w' => e = .returned (.bool (l == k)) ∧ w = w' := by
  subst hn hm; exact equal_calls A B c d l k w hl hk
set_option maxRecDepth 100000 in
theorem prefix_calls (b o n c : Nat) (B : Option Addr) (m d : Nat) (l k : List UInt8) (w : World) (hn : l.length = n) (hm : k.length = m) (hc : n ≤ c) (hl : Rd w (some ⟨b, o, none⟩) (bs l)) (hk : Rd w B (bs k)) :
    Calls Try.prog 104 #[.slice (some ⟨b, o, none⟩) n c, .slice B m d] w fun e w' => e = .returned (.bool (l.take m == k)) ∧ w = w' := by
  have HN := Lib.hid hn
  have HM := Lib.hid hm
  clear hn hm
  by_cases hmn : m ≤ n
  · have h1 : (m : Int) ≤ (n : Int) := by omega
    have hs := fun W => sl_to (P := Try.prog) Try.underlying41 info5 b o n c m (m : Int) rfl (by omega) W
    go_enter Try.func104, Try.ntmps104
    go_wp2_with fail
    try simp only [hs]
    go_wp2_with fail
    refine (equal_at _ B m m c d (l.take m) k w (by rw [List.length_take, HN.out]; omega) HM.out (rd_to hl m) hk).mono ?_
    rintro e w' ⟨rfl, rfl⟩
    go_wp2_with fail
    go_ret
    exact ⟨rfl, rfl⟩
  · have h1 : ¬ (m : Int) ≤ (n : Int) := by omega
    have h2 : (l.take m == k) = false := by
      apply beq_eq_false_iff_ne.2
      intro h
      have := congrArg List.length h
      rw [List.length_take, HN.out, HM.out] at this
      omega
    rw [h2]
    go_enter Try.func104, Try.ntmps104
    go_wp2_with fail
    go_ret
    exact ⟨rfl, rfl⟩
set_option maxRecDepth 100000 in
theorem cut_calls93 (b o n c : Nat) (B : Option Addr) (m d : Nat) (l k : List UInt8) (w : World) (hn : l.length = n) (hm : k.length = m) (hc : n ≤ c) (hl : Rd w (some ⟨b, o, none⟩) (bs l)) (hk : Rd w B (bs k)) :
    Calls Try.prog 93 #[.slice (some ⟨b, o, none⟩) n c, .slice B m d] w fun e w' => w = w' ∧ ((l.take m = k ∧ e = .returned (.tuple #[.slice (behind (some ⟨b, o, none⟩) c m) (n - m) (c - m), .bool true])) ∨ (l.take m ≠ k ∧ e = .returned (.tuple #[.slice (some ⟨b, o, none⟩) n c, .bool false]))) := by
  by_cases h : l.take m = k
  · have hmn : m ≤ n := by
      have := congrArg List.length h
      rw [List.length_take, hn, hm] at this
      omega
    have hs := fun W => sl_behind (P := Try.prog) Try.underlying41 info5 (some ⟨b, o, none⟩) n c m (m : Int) rfl hmn hc W
    have HS := Lib.hid hs
    have HH := Lib.hid h
    have HP := Lib.hid (prefix_calls b o n c B m d l k w hn hm hc hl hk)
    clear hs h hn hm
    go_enter Try.func93, Try.ntmps93
    go_wp2_with fail
    refine HP.out.mono ?_
    rintro e w' ⟨he, rfl⟩
    rw [HH.out, beq_self_eq_true] at he
    subst he
    go_wp2_with fail
    all_goals
      go_ret2
      refine ⟨rfl, .inl ⟨HH.out, ?_⟩⟩
      simp_all [behind, add_lit, Array.getD]
  · have h2 : (l.take m == k) = false := beq_eq_false_iff_ne.2 h
    have HH := Lib.hid h
    have HP := Lib.hid (prefix_calls b o n c B m d l k w hn hm hc hl hk)
    have H2 := Lib.hid h2
    clear h hn hm h2
    go_enter Try.func93, Try.ntmps93
    go_wp2_with fail
    refine HP.out.mono ?_
    rintro e w' ⟨he, rfl⟩
    rw [H2.out] at he
    subst he
    go_wp2_with fail
    go_ret2
    exact ⟨rfl, .inr ⟨HH.out, rfl⟩⟩
end Go.Proofs.Ytbdnoiaglighhaa
