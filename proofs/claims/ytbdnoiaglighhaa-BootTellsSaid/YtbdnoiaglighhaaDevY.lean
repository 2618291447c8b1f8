/- The walk of package disk's Try. No statement is proved here. -/
import Derived.Test.YtbdnoiaglighhaaDevX
import Derived.Tactics
import Derived.Tactics2
import Derived.Defers
import Derived.Recover
import Derived.RangeFuncBox
import Derived.Laws.Pointers
namespace Go.Proofs.Ytbdnoiaglighhaa
set_option linter.unusedVariables false
set_option linter.unusedSimpArgs false
open Go.RowKit Go.Maps

theorem assert116 (w : World) : (Instr.typeAssert (Value.iface 116 (Value.agg #[])) 20 116 true).run Try.prog w = .ok (.tuple #[.agg #[], .bool true]) w := by kernel_rfl
theorem try1_idle (p : Addr) (w : World) : CallsD Try.prog 96 #[.pointer (some p)] .returning w fun e u' w' => e = .returned (.tuple #[]) ∧ u' = .returning ∧ w' = w := by
  refine callsD_of_wpS Try.func96 rfl fun c₀ cs hu => ?_
  apply wpS_seq
  apply wpS_region
  simp [wpOpsS, go_sem, recoverD, hu, Try.ntmps96, Exit.thenS]
  refine wpS_of_wp ?_
  simp only [Array.replicate, List.replicate, List.setIfInBounds_toArray, List.set_cons_succ, List.set_cons_zero, List.append_toArray, List.cons_append, List.nil_append]
  go_wp2
  cases c₀
  simp_all [bodyPostS, results, Try.results96]
set_option maxRecDepth 100000 in
theorem try1_gone {b : Nat} {x : Bool} {w : World} (hb : Blk w b 4 [.bool x]) :
    CallsD Try.prog 96 #[.pointer (some ⟨b, 0, none⟩)] (.panicking [gone]) w fun e u' w' =>
      e = .returned (.tuple #[]) ∧ u' = .panicking [{ gone with recovered := true }] ∧ w' = (w.alloc (.cells #[] 116)).setCell ⟨b, 0, none⟩ (.bool false) := by
  have HB := Lib.hid hb
  have ha := fun w => assert116 w
  have hc : (w.alloc (.cells #[] 116)).cell? ⟨b, 0, none⟩ = some (.bool x) := (hb.alloc _).cellAt rfl
  have hf : (w.alloc (.cells #[] 116)).frozen? ⟨b, 0, none⟩ = false := (hb.alloc _).frozen 0
  clear hb
  unfold gone
  refine callsD_of_wpS Try.func96 rfl fun c₀ cs hu => ?_
  apply wpS_seq
  apply wpS_region
  simp [wpOpsS, go_sem, recoverD, hu, Try.ntmps96, Exit.thenS]
  refine wpS_of_wp ?_
  simp only [Array.replicate, List.replicate, List.setIfInBounds_toArray, List.set_cons_succ, List.set_cons_zero, List.append_toArray, List.cons_append, List.nil_append]
  go_wp2_with fail
  cases c₀
  simp_all [bodyPostS, results, Try.results96]
section
variable {w w' : World}
theorem hmf : ∀ (fn : Fn) (first cap : Array Value) (w : World), (Instr.makeFunc fn first cap).run Try.prog w = .ok (.func fn first cap) w := fun _ _ _ _ => rfl
set_option maxRecDepth 100000 in
theorem try_calls {g : Nat} {cap : Array Value} {P1 P2 : World → Prop} (hcf : ∀ w, (callFunc g cap).run Try.prog w = .ok (.enter g cap) w) (hc : Calls Try.prog g cap (w.alloc (.cells #[.bool false] 4)) fun e w' => (e = .returned (.tuple #[]) ∧ P1 w' ∨ e = .panicked [gone] ∧ P2 w') ∧ Blk w' w.heap.size 4 [.bool false]) :
    Calls Try.prog 51 #[.func (.func g) #[] cap] w fun e w' => ∃ w1 w2 : World, w1.grownBy w2 none ∧ w2.grownBy w' (some w.heap.size) ∧ (e = .returned (.bool true) ∧ P1 w1 ∨ e = .returned (.bool false) ∧ P2 w1) := by
  have hm := hmf
  have HC := Lib.hid hc
  clear hc
  go_enter_defers Try.func51, Try.ntmps51
  go_wp2_with fail
  refine HC.out.mono ?_
  rintro e w1 ⟨hc1, hbl⟩
  have c0 : w1.cell? ⟨w.heap.size, 0, none⟩ = some (.bool false) := hbl.cellAt rfl
  have f0 : w1.frozen? ⟨w.heap.size, 0, none⟩ = false := hbl.frozen 0
  have HBL := Lib.hid hbl
  clear hbl
  rcases hc1 with ⟨rfl, h1⟩ | ⟨rfl, h2⟩
  · have H1 := Lib.hid h1
    clear h1
    go_wp2_with fail
    refine leaves_cons (f := 96) (args := #[.pointer (some ⟨w.heap.size, 0, none⟩)]) (by simp) (by simp [go_sem]) ?_
    refine (try1_idle _ _).mono ?_
    rintro e u' w'' ⟨rfl, rfl, rfl⟩
    have c1 := (HBL.out.set_ 0 (.bool true)).cellAt (i := 0) rfl
    simp only [Leaves, settle, results, Try.results51]
    refine ⟨.bool true, by simp [go_sem, c1], w1, w1, World.grownBy.refl _ _, grownBy_setCell' _ _ _, .inl ⟨rfl, H1.out⟩⟩
  · have H2 := Lib.hid h2
    clear h2
    go_wp2_with fail
    refine leaves_cons (f := 96) (args := #[.pointer (some ⟨w.heap.size, 0, none⟩)]) (by simp) (by simp [go_sem]) ?_
    refine (try1_gone HBL.out).mono ?_
    rintro e u' w'' ⟨rfl, rfl, rfl⟩
    have c1 := ((HBL.out.alloc (.cells #[] 116)).set_ 0 (.bool false)).cellAt (i := 0) rfl
    simp only [List.dropWhile, Leaves, settle, results, Try.results51]
    exact ⟨.bool false, by simp [go_sem, c1], w1, w1.alloc (.cells #[] 116), World.grownBy_alloc _ _ _, grownBy_setCell' _ _ _, .inr ⟨rfl, H2.out⟩⟩
end
end Go.Proofs.Ytbdnoiaglighhaa
