/- The walk of seal.Seal. No statement is proved here. -/
import Derived.Test.YtbdnoiaglighhaaRHead
namespace Go.Proofs.Ytbdnoiaglighhaa
set_option linter.unusedVariables false
set_option linter.unusedSimpArgs false
open Go.RowKit

/-- What is sealed behind the head: the padded text and its sum. -/
def bodyB (boot seq : Nat) (l : List UInt8) (s : Nat) : List UInt8 := padB l (s - 22) ++ putB (sumB (hdB boot seq ++ padB l (s - 22))) 8
/-- A sealed block. -/
def sealB (key : List UInt8) (boot seq : Nat) (l : List UInt8) (s : Nat) : List UInt8 := hdB boot seq ++ xorA key (hdB boot seq) (bodyB boot seq l s)
theorem bodyB_length (boot seq : Nat) (l : List UInt8) (s : Nat) (h : l.length + 22 ≤ s) : (bodyB boot seq l s).length = s - 12 := by
  rw [bodyB, List.length_append, putB_length, padB_length _ _ (by omega)]; omega
theorem sealB_length (key : List UInt8) (boot seq : Nat) (l : List UInt8) (s : Nat) (h : l.length + 22 ≤ s) : (sealB key boot seq l s).length = s := by
  rw [sealB, List.length_append, hdB_length, xorA_length, bodyB_length _ _ _ _ h]; omega

theorem room_calls (s : Int) (w : World) (h : 22 ≤ s) (h2 : s ≤ 60000) : Calls Try.prog 79 #[.int .i64 s] w fun e w' => e = .returned (.int .i64 (s - 22)) ∧ w = w' := by
  go_enter Try.func79, Try.ntmps79
  go_wp2
  go_ret
  exact ⟨ret_int (by omega), rfl⟩

theorem pad_at (A : Option Addr) (n c : Nat) (l : List UInt8) (most : Nat) (M : Int) (w : World) (hn : l.length = n) (hM : M = (most : Int)) (hr : Rd w A (bs l)) (hl : l.length ≤ most) (hm : most ≤ 60000) :
    Calls Try.prog 80 #[.slice A n c, .int .i64 M] w fun e w' =>
      ∃ v, e = .returned (.tuple #[v, .bool true]) ∧ w'.ownsRow w.heap.size 5 1 v (most + 2) (bs (padB l most)) ∧ Below w.heap.size w w' := by
  subst hn; subst hM; exact pad_calls A c l most w hr hl hm
theorem pad_not (A : Option Addr) (n c : Nat) (most : Nat) (M : Int) (w : World) (hM : M = (most : Int)) (hl : most < n) :
    Calls Try.prog 80 #[.slice A n c, .int .i64 M] w fun e w' => e = .returned (.tuple #[.slice none 0 0, .bool false]) ∧ w = w' := by
  subst hM; exact pad_no A c n most w hl
theorem rpad_at (A : Option Addr) (n c : Nat) (l : List UInt8) (most : Nat) (M : Int) (w : World) (hn : l.length = n) (hM : M = (most : Int)) (hr : Rd w A (bs l)) (hl : l.length ≤ most) (hm : most ≤ 60000) :
    Calls Try.prog 91 #[.slice A n c, .int .i64 M] w fun e w' =>
      ∃ v, e = .returned (.tuple #[v, .bool true]) ∧ w'.ownsRow w.heap.size 5 1 v (most + 2) (bs (padB l most)) ∧ Below w.heap.size w w' := by
  subst hn; subst hM; exact rpad_calls A c l most w hr hl hm
theorem rpad_not (A : Option Addr) (n c : Nat) (most : Nat) (M : Int) (w : World) (hM : M = (most : Int)) (hl : most < n) :
    Calls Try.prog 91 #[.slice A n c, .int .i64 M] w fun e w' => e = .returned (.tuple #[.slice none 0 0, .bool false]) ∧ w = w' := by
  subst hM; exact rpad_no A c n most w hl

/-- How Seal ends. -/
def Sealed (key : List UInt8) (boot seq : Nat) (l : List UInt8) (size : Int) (w : World) (e : Ending) (w' : World) : Prop :=
  (∃ (s : Nat) (v : Value), size = (s : Int) ∧ l.length + 22 ≤ s ∧ e = .returned (.tuple #[v, .bool true]) ∧ w'.ownsRow w.heap.size 5 1 v s (bs (sealB key boot seq l s)) ∧ Below w.heap.size w w') ∨
  (size < (l.length : Int) + 22 ∧ e = .returned (.tuple #[.slice none 0 0, .bool false]) ∧ Below w.heap.size w w')

set_option maxHeartbeats 1000000 in
set_option maxRecDepth 100000 in
theorem seal_calls (key : List UInt8) (hk : key.length = 32) (boot seq : Nat) (hb : boot < 4294967296) (l : List UInt8) (A : Option Addr) (n c : Nat) (hn : l.length = n) (size : Int) (hs : size ≤ 60000) (w : World) (hr : Rd w A (bs l)) :
    Calls Try.prog 33 #[.agg (bs key).toArray, .int .u32 (boot : Int), .int .u64 (seq : Int), .slice A n c, .int .i64 size] w (Sealed key boot seq l size w) := by
  have HK := Lib.hid hk
  have HN := Lib.hid hn
  have HR := Lib.hid hr
  clear hk hn hr
  have hq : 22 ≤ size ∧ l.length + 22 ≤ size ∨ 22 ≤ size ∧ ¬ l.length + 22 ≤ size ∨ size < 22 := by omega
  generalize hX : bs key = X at *
  have HX := Lib.hid hX
  clear hX
  go_enter Try.func33, Try.ntmps33
  go_wp2_with fail
  refine (head_calls boot seq hb _).mono ?_
  rintro e w1 ⟨rfl, hb1⟩
  have b0 := (Blk.new w 58 X).below hb1 (by simp)
  have hbel := ((Below.refl w.heap.size w).alloc (Nat.le_refl _) (.cells X.toArray 58)).trans (hb1.mono (by simp))
  clear hb1
  have B0 := Lib.hid (b0.alloc (.cells noughts12.toArray 48))
  have BB := Lib.hid (hbel.alloc hbel.size (.cells noughts12.toArray 48))
  obtain ⟨g, hg⟩ : ∃ g, g = w1.heap.size := ⟨_, rfl⟩
  have HP := Lib.hid (Blk.new w1 48 noughts12)
  have hg0 : w.heap.size < g := by rw [hg]; exact b0.lt
  rw [← hg] at HP
  have Hg := Lib.hid hg
  clear hg b0 hbel
  rcases hq with hq | hq | hq
  · obtain ⟨s, rfl⟩ : ∃ s : Nat, size = (s : Int) := ⟨size.toNat, by omega⟩
    go_wp2_with (first
      | (refine wpList_putAll rfl 48 (.tmp 12) (.tmp 20) rfl (vs := bs (hdB boot seq)) rfl rfl (by rw [← Hg.out]; exact HP.out) info48 (by rw [bs_length, hdB_length]) (by decide) (bs_one _) ?_; intro w5 hP5 hg5))
    rw [← Hg.out] at hP5
    have C0 := Lib.hid (B0.out.grown hg5 (by have := Hg.out; simp; omega))
    have CB := Lib.hid (BB.out.grown hg5 BB.out.size (fun j hj => by cases hj; have := Hg.out; omega))
    have CR := Lib.hid (HR.out.below CB.out)
    have C1 := Lib.hid hP5
    clear hP5 hg5 B0 BB HP
    rw [← Hg.out]
    clear Hg
    refine (room_calls _ _ (by omega) (by omega)).mono ?_
    rintro e w6 ⟨rfl, rfl⟩
    go_wp2_with fail
    refine (pad_at _ _ _ l (s - 22) _ _ HN.out (by omega) CR.out (by omega) (by omega)).mono ?_
    rintro e w7 ⟨v, rfl, hown, hb7⟩
    obtain ⟨A7, c7, rfl⟩ := own_slice hown
    have D0 := Lib.hid (C0.out.below hb7 C0.out.lt)
    have D1 := Lib.hid (C1.out.below hb7 C1.out.lt)
    have DB := Lib.hid (CB.out.trans (hb7.mono CB.out.size))
    have DO := Lib.hid (Joins.ownsRow_le (base' := g + 1) hown (by have := C1.out.lt; omega))
    clear hb7 hown C0 C1 CB CR
    go_wp2_with fail
    have hHl : (hdB boot seq).length = 12 := hdB_length _ _
    have hPl : (padB l (s - 22)).length = s - 22 + 2 := padB_length _ _ (by omega)
    have hrp := (Blk.new w7 41 ([Part.mk (some ⟨g, 0, none⟩) 12 (hdB boot seq), Part.mk A7 c7 (padB l (s - 22))].map Part.val)).rdAll
    have hargs : (Obj.cells ([Part.mk (some ⟨g, 0, none⟩) 12 (hdB boot seq), Part.mk A7 c7 (padB l (s - 22))].map Part.val).toArray 41) = .cells #[.slice (some ⟨g, 0, none⟩) 12 12, .slice A7 (s - 22 + 2) c7] 41 := by
      simp [Part.val, hHl, hPl]
    rw [hargs] at hrp
    have hall := (arr48.all g 0 w7)
    refine (sum_calls _ _ _ _ _ rfl hrp ?_ (by simp)).mono ?_
    · intro p hp
      simp only [List.mem_cons, List.not_mem_nil, or_false] at hp
      rcases hp with rfl | rfl
      · exact ⟨(D1.out.alloc _).rdAll, by show (hdB boot seq).length ≤ _; omega⟩
      · exact ⟨(Rd.of_own DO.out).alloc _, by show (padB l (s - 22)).length ≤ _; omega⟩
    rintro e w8 ⟨rfl, rfl⟩
    have hsum : joinP [Part.mk (some ⟨g, 0, none⟩) 12 (hdB boot seq), Part.mk A7 c7 (padB l (s - 22))] = hdB boot seq ++ padB l (s - 22) := by simp [joinP]
    rw [hsum]
    obtain ⟨z, hz⟩ : ∃ z, z = sumB (hdB boot seq ++ padB l (s - 22)) := ⟨_, rfl⟩
    rw [← hz]
    have HZ := Lib.hid (show padB l (s - 22) ++ putB z 8 = bodyB boot seq l s by rw [hz]; rfl)
    have E0 := Lib.hid (D0.out.alloc (.cells #[.slice (some ⟨g, 0, none⟩) 12 12, .slice A7 (s - 22 + 2) c7] 41))
    have E1 := Lib.hid (D1.out.alloc (.cells #[.slice (some ⟨g, 0, none⟩) 12 12, .slice A7 (s - 22 + 2) c7] 41))
    have EB := Lib.hid (DB.out.alloc DB.out.size (.cells #[.slice (some ⟨g, 0, none⟩) 12 12, .slice A7 (s - 22 + 2) c7] 41))
    have EO := Lib.hid (DO.out.alloc (.cells #[.slice (some ⟨g, 0, none⟩) 12 12, .slice A7 (s - 22 + 2) c7] 41))
    clear hsum hz hrp hargs hall hHl hPl D0 D1 DB DO
    generalize w7.alloc (.cells #[.slice (some ⟨g, 0, none⟩) 12 12, .slice A7 (s - 22 + 2) c7] 41) = w8 at *
    go_wp2_with fail
    refine (put_at z 8 _ _ _ rfl rfl (by decide)).mono ?_
    rintro e w9 ⟨v9, rfl, hown9, hb9⟩
    obtain ⟨A9, c9, rfl⟩ := own_slice hown9
    have F0 := Lib.hid (E0.out.below hb9 E0.out.lt)
    have F1 := Lib.hid (E1.out.below hb9 E1.out.lt)
    have FB := Lib.hid (EB.out.trans (hb9.mono EB.out.size))
    have FO := Lib.hid (own_below EO.out hb9)
    clear hb9 E0 E1 EB EO
    have hg1 := F1.out.lt
    have hnF : (bs (padB l (s - 22))).length = s - 22 + 2 := by rw [bs_length, padB_length _ _ (by omega)]
    have hvb := FO.out.lt
    go_wp2_with (first
      | (at_builtin; refine wpList_appAny (v := .slice A7 (s - 22 + 2) c7) S41 rfl (.tmp 32) (.tmp 37) rfl rfl rfl FO.out (.of_own hown9) (by rw [bs_length, putB_length]) (bs_one _) (by omega) (by unfold maxLen; omega) (by omega) ?_
         intro v10 w10 hown10 hg10 _
         have G0 := Lib.hid (F0.out.grown hg10 (fun h => by have := (hvb _ h.symm).1; omega))
         have G1 := Lib.hid (F1.out.grown hg10 (fun h => by have := (hvb _ h.symm).1; omega))
         have GB := Lib.hid (FB.out.grown hg10 FB.out.size (fun j hj => by have := (hvb _ hj).1; omega))
         rw [← bs_append, HZ.out, show s - 22 + 2 + 8 = s - 12 by omega] at hown10
         clear hg10 hvb F0 F1 FB FO hown9
         obtain ⟨A10, c10, hv10⟩ := own_slice hown10
         subst hv10)
      | (refine wpList_getAll rfl 58 (.tmp 5) rfl rfl G0.out Try.underlying58 rfl info58 (by rw [← HX.out, bs_length, HK.out]) ?_)
      | (refine wpList_getAll rfl 48 (.tmp 12) rfl rfl G1.out Try.underlying48 rfl info48 (by rw [bs_length, hdB_length]) ?_))
    rw [← HX.out]
    refine (xor_calls key (hdB boot seq) (bodyB boot seq l s) _ (s - 12) _ HK.out (hdB_length _ _) (by rw [bodyB_length _ _ _ _ (by omega)]; omega) (bodyB_length _ _ _ _ (by omega)) _ (.of_own hown10)).mono ?_
    rintro e w11 ⟨v11, rfl, hown11, hb11⟩
    obtain ⟨A11, c11, rfl⟩ := own_slice hown11
    have H1 := Lib.hid (G1.out.below hb11 G1.out.lt)
    have HB := Lib.hid (GB.out.trans (hb11.mono GB.out.size))
    clear hb11 G0 G1 GB hown10
    have hsz := HB.out.size
    have hall := (arr48.all g 0 w11)
    go_wp2_with (first
      | (at_builtin; refine wpList_appFull S41 rfl (.tmp 46) (.tmp 47) rfl (n := 12) rfl rfl H1.out.rdAll (by rw [bs_length, hdB_length]) (by decide) (.of_own hown11) (by rw [bs_length, xorA_length, bodyB_length _ _ _ _ (by omega)]; omega) (by omega) (by omega) (by unfold maxLen; omega) ?_
         intro v12 w12 hown12 hg12))
    go_ret2
    refine .inl ⟨s, v12, rfl, by omega, rfl, ?_, HB.out.grown hg12 hsz (fun j hj => by cases hj)⟩
    rw [← bs_append, show 12 + (s - 12) = s by omega] at hown12
    exact Joins.ownsRow_le hown12 hsz
  · obtain ⟨s, rfl⟩ : ∃ s : Nat, size = (s : Int) := ⟨size.toNat, by omega⟩
    go_wp2_with (first
      | (refine wpList_putAll rfl 48 (.tmp 12) (.tmp 20) rfl (vs := bs (hdB boot seq)) rfl rfl (by rw [← Hg.out]; exact HP.out) info48 (by rw [bs_length, hdB_length]) (by decide) (bs_one _) ?_; intro w5 hP5 hg5))
    rw [← Hg.out] at hP5
    have C0 := Lib.hid (B0.out.grown hg5 (by have := Hg.out; simp; omega))
    have CB := Lib.hid (BB.out.grown hg5 BB.out.size (fun j hj => by cases hj; have := Hg.out; omega))
    have CR := Lib.hid (HR.out.below CB.out)
    have C1 := Lib.hid hP5
    clear hP5 hg5 B0 BB HP
    rw [← Hg.out]
    clear Hg
    refine (room_calls _ _ (by omega) (by omega)).mono ?_
    rintro e w6 ⟨rfl, rfl⟩
    go_wp2_with fail
    refine (pad_not _ _ _ (s - 22) _ _ (by omega) (by have := HN.out; omega)).mono ?_
    rintro e w7 ⟨rfl, rfl⟩
    go_wp2_with fail
    go_ret2
    exact .inr ⟨by omega, rfl, CB.out⟩
  · go_wp2_with (first
      | (refine wpList_putAll rfl 48 (.tmp 12) (.tmp 20) rfl (vs := bs (hdB boot seq)) rfl rfl (by rw [← Hg.out]; exact HP.out) info48 (by rw [bs_length, hdB_length]) (by decide) (bs_one _) ?_; intro w5 hP5 hg5))
    go_ret2
    refine .inr ⟨by omega, rfl, BB.out.grown hg5 BB.out.size (fun j hj => by cases hj; have := Hg.out; omega)⟩
end Go.Proofs.Ytbdnoiaglighhaa
