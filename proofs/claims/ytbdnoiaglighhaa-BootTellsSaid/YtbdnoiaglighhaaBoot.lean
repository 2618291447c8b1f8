/- Records of beginnings, plain; the walks of slices.Grow, slices.Concat and of both sides' Record. No statement is proved here. -/
import Derived.Test.YtbdnoiaglighhaaDevZ
namespace Go.Proofs.Ytbdnoiaglighhaa
set_option linter.unusedVariables false
set_option linter.unusedSimpArgs false
set_option linter.constructorNameAsVariable false
open Go.RowKit Go.Maps

/-- A number's record. -/
def recB (n : Nat) : List UInt8 := List.replicate 12 0 ++ putB n 4 ++ putB (sumB (putB n 4)) 8
theorem recB_length (n : Nat) : (recB n).length = 24 := by unfold recB; simp [putB_length]
theorem own_cut0 {w : World} {base g n c : Nat} {xs : List Value} (h : w.ownsRow base 5 1 (.slice (some ⟨g, 0, none⟩) n c) n xs) : w.ownsRow base 5 1 (.slice (some ⟨g, 0, none⟩) 0 c) 0 [] := by
  refine ⟨by simp, ?_⟩
  rcases h.2 with ⟨hv, _⟩ | ⟨g', cap, cur, hv, hg, hh, hnc, hm, hcs, _⟩
  · cases hv
  · injection hv with h1 _ h3
    injection h1 with h1
    injection h1 with h1 _ _
    subst h1 h3
    exact .inr ⟨g, c, cur, rfl, hg, hh, Nat.zero_le _, hm, hcs, by simp⟩
theorem sl_to0 {P : Program} {t e : TypeId} (hu : P.underlying t = some (.slice e)) (hs : (P.info? e).map (·.size) = some 1) (g n c : Nat) (hc : 0 < c) (W : World) :
    (Instr.slice t (.slice (some ⟨g, 0, none⟩) n c) none (some (.int .i64 0)) none).run P W = .ok (.slice (some ⟨g, 0, none⟩) 0 c) W := by
  have he : P.elem t = e := by simp [Program.elem, hu]
  have hsz : (sizeOf (P.elem t)).run P W = .ok 1 W := by
    rw [he]
    cases hi : P.info? e with
    | none => simp [hi] at hs
    | some i =>
      have : i.size = 1 := by simpa [hi] using hs
      simp [sizeOf, typeInfo, hi, this]
  rw [run_slice_h (ht := by rw [he]; exact hu) (h0 := by omega) (h2 := by omega), hsz]
  simp [sliced, show ¬ c = 0 by omega, add_lit]
set_option maxRecDepth 100000 in
theorem grow_calls (n : Nat) (hn : n ≤ 60000) (w : World) : Calls Try.prog 105 #[.slice none 0 0, .int .i64 (n : Int)] w fun e w' => ∃ A c, e = .returned (.slice A 0 c) ∧ w'.ownsRow w.heap.size 5 1 (.slice A 0 c) 0 [] ∧ Below w.heap.size w w' := by
  by_cases h0 : n = 0
  · subst h0
    go_enter Try.func105, Try.ntmps105
    go_wp2
    go_ret
    exact ⟨none, 0, rfl, World.ownsRow_nil _ _ _ _, .refl _ _⟩
  · have h1 : ¬ (n : Int) < 0 := by omega
    have h2 : (0 : Int) < (n : Int) := by omega
    have hown0 := World.ownsRow_nil w w.heap.size 5 1
    go_enter Try.func105, Try.ntmps105
    go_wp2_with (first
      | (at_builtin; refine wpList_appZeros (v := .slice none 0 0) (n := 0) S41 Try.underlying3 rfl (.tmp 20) (.tmp 21) rfl rfl (m := n) rfl rfl hown0 (by simp [zeroCells_one, Value.cells, Value.oneCell']) (by decide) (by omega) (Nat.le_refl _) ?_; intro v1 w1 hown1 hg1 hl1))
    rw [zeros_bs, List.nil_append, Nat.zero_add] at hown1
    obtain ⟨A1, c1, rfl⟩ := own_slice hown1
    obtain ⟨g1, rfl, hc1, _, _⟩ := own_at hown1 (by omega)
    have HB1 := Lib.hid ((Below.refl w.heap.size w).grown hg1 (Nat.le_refl _) (fun j e => by cases e))
    have HO1 := Lib.hid (own_cut0 hown1)
    have hs0 := fun W => sl_to0 (P := Try.prog) Try.underlying41 info5 g1 n c1 (by omega) W
    clear hown1 hg1 hl1 hown0
    simp only [hs0]
    go_wp2_with fail
    go_ret
    exact ⟨some ⟨g1, 0, none⟩, c1, rfl, HO1.out, HB1.out⟩
set_option maxHeartbeats 1000000 in
set_option maxRecDepth 100000 in
theorem concat_calls (A : Option Addr) (n c : Nat) (ps : List Part) (w : World) (hn : ps.length = n) (hr : Rd w A (ps.map Part.val)) (hp : ∀ p ∈ ps, Rd w p.at_ (bs p.l)) (hl : n ≤ 1000) (hs : ∀ k, (joinP (ps.take k)).length ≤ 60000) :
    Calls Try.prog 95 #[.slice A n c] w fun e w' => ∃ v, e = .returned v ∧ w'.ownsRow w.heap.size 5 1 v (joinP ps).length (bs (joinP ps)) ∧ Below w.heap.size w w' := by
  have HN := Lib.hid hn
  have HP := Lib.hid hp
  have HS := Lib.hid hs
  have HR := Lib.hid hr
  clear hn hp hs hr
  go_enter Try.func95, Try.ntmps95
  go_wp2
  go_loop [3, 11] (fun s i => ∃ k : Nat, k ≤ n ∧ i = .int .i64 (k : Int) ∧ s = .int .i64 (((joinP (ps.take k)).length : Nat) : Int)) (fun _ i => n - (intOf i).toNat)
  case atStart => exact ⟨0, Nat.zero_le _, rfl, rfl⟩
  case round =>
    obtain ⟨k, hk, rfl, rfl⟩ := hrel
    by_cases hlt : k < n
    · have hkl : k < ps.length := by rw [HN.out]; exact hlt
      have hlt' : (k : Int) < (n : Int) := by omega
      obtain ⟨b, o, hA, hcell⟩ := HR.out.cell (k := k) (by simpa using hkl)
      subst hA
      rw [List.getElem_map, Part.val] at hcell
      have h2 := HS.out (k + 1)
      have hj := congrArg List.length (join_take ps k hkl)
      rw [List.length_append] at hj
      rw [hj] at h2
      have HJ := Lib.hid hj
      clear hj
      generalize ps[k].at_ = pa at *
      generalize ps[k].cap = pc at *
      generalize ps[k].l.length = pl at *
      generalize (joinP (ps.take k)).length = T at *
      have h3 : ¬ ((T : Int) + (pl : Int) < 0) := by omega
      go_wp2
      go_round
      case rel => exact ⟨k + 1, by omega, by go_num, by rw [HJ.out]; simp⟩
      case measure => simp [intOf]; omega
    · obtain rfl : k = n := by omega
      have hlt' : ¬ (k : Int) < (k : Int) := by omega
      have htk : ps.take k = ps := List.take_of_length_le (by rw [HN.out]; omega)
      have hT := HS.out k
      rw [htk] at hT ⊢
      obtain ⟨T, hTe⟩ : ∃ T, T = (joinP ps).length := ⟨_, rfl⟩
      rw [← hTe] at hT ⊢
      have HT := Lib.hid hTe
      clear hTe htk
      go_wp2_with fail
      refine (grow_calls T hT w).mono ?_
      rintro e w1 ⟨A1, c1, rfl, hown1, hb1⟩
      have HO := Lib.hid hown1
      have HB := Lib.hid hb1
      have c0 := fun (j : Nat) (hj : j < ps.length) => (HR.out.below hb1).cell (k := j) (by simpa using hj)
      have C0 := Lib.hid c0
      clear hown1 hb1 c0
      go_wp2_with fail
      go_loopw [6, 27] (fun v i wr => ∃ j : Nat, j ≤ k ∧ i = .int .i64 (j : Int) ∧ wr.ownsRow w.heap.size 5 1 v (joinP (ps.take j)).length (bs (joinP (ps.take j))) ∧ Below w.heap.size w wr) (fun _ i _ => k - (intOf i).toNat)
      case atStart => exact ⟨0, Nat.zero_le _, rfl, HO.out, HB.out⟩
      case round =>
        obtain ⟨j, hj, rfl, hown, hb⟩ := hrel
        by_cases hjl : j < k
        · have hjk : j < ps.length := by rw [HN.out]; exact hjl
          have hjl' : (j : Int) < (k : Int) := by omega
          obtain ⟨b, o, hA, hcell⟩ := (HR.out.below hb).cell (k := j) (by simpa using hjk)
          subst hA
          rw [List.getElem_map, Part.val] at hcell
          have hrp := (HP.out ps[j] (List.getElem_mem _)).below hb
          have hjt := join_take ps j hjk
          have hsz := HS.out (j + 1)
          rw [hjt, List.length_append] at hsz
          have HJ := Lib.hid hjt
          obtain ⟨p, hp⟩ : ∃ p, p = ps[j] := ⟨_, rfl⟩
          rw [← hp] at hcell hrp HJ hsz
          obtain ⟨pa, pc, pl⟩ := p
          simp only at hcell hrp HJ hsz
          obtain ⟨Q, hQ⟩ : ∃ Q, Q = joinP (ps.take j) := ⟨_, rfl⟩
          rw [← hQ] at hown HJ hsz
          obtain ⟨AQ, cQ, rfl⟩ := own_slice hown
          have HBB := Lib.hid hb
          have HOW := Lib.hid hown
          have hbs := hb.size
          clear hp hQ hjt hb hown
          go_wp2_with (first
            | (at_builtin; refine wpList_appAny (v := .slice AQ Q.length cQ) S41 rfl (.tmp 31) (.tmp 32) rfl rfl rfl HOW.out hrp (by rw [bs_length]; omega) (bs_one _) (by omega) (by unfold maxLen; omega) hbs ?_; intro v3 w3 hown3 hg3 hl3))
          go_roundw
          case rel => exact ⟨j + 1, by omega, by go_num, by rw [HJ.out, List.length_append, bs_append]; exact hown3, below_grown HBB.out HOW.out hg3 hbs⟩
          case measure => simp [intOf]; omega
        · obtain rfl : j = k := by omega
          have hjl' : ¬ (j : Int) < (j : Int) := by omega
          have htk : ps.take j = ps := List.take_of_length_le (by rw [HN.out]; omega)
          rw [htk] at hown
          have HOW := Lib.hid hown
          have HBB := Lib.hid hb
          clear hown hb htk
          go_wp2_with fail
          go_ret
          exact ⟨_, rfl, HOW.out, HBB.out⟩
end Go.Proofs.Ytbdnoiaglighhaa
