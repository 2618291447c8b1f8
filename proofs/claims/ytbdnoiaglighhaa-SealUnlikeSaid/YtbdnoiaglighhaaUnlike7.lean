/- The walk of dumbwaiterlaw7.SealUnlike. No statement is proved here. -/
import Derived.Test.YtbdnoiaglighhaaTells7
import Derived.Test.YtbdnoiaglighhaaMixU
namespace Go.Proofs.Ytbdnoiaglighhaa
set_option linter.unusedVariables false
set_option linter.unusedSimpArgs false
open Go.RowKit

theorem sealB_take (key : List UInt8) (boot seq : Nat) (l : List UInt8) (s : Nat) : (sealB key boot seq l s).take 12 = hdB boot seq := by unfold sealB; rw [List.take_left' (hdB_length _ _)]
theorem sealB_other (key : List UInt8) (boot seq other : Nat) (l : List UInt8) (s : Nat) (hq : seq < 18446744073709551616) (ho : other < 18446744073709551616) (h : seq ≠ other) : sealB key boot seq l s ≠ sealB key boot other l s := by
  intro he
  have h1 := sealB_take key boot seq l s
  rw [he, sealB_take] at h1
  have h2 := hdB_drop boot seq hq
  rw [← h1, hdB_drop boot other ho] at h2
  exact h h2.symm
theorem sealB_longer (key : List UInt8) (boot seq : Nat) (l : List UInt8) (s : Nat) (hb : boot < 4294967296) (hq : seq < 18446744073709551616) (hl : l.length + 23 ≤ s) (hs : s ≤ 60000) : sealB key boot seq l s ≠ sealB key boot seq (l ++ [1]) s := by
  intro he
  have h1 := open_seal key boot seq l s hb hq (by omega) hs
  have h2 := open_seal key boot seq (l ++ [1]) s hb hq (by simp; omega) hs
  rw [he, h2] at h1
  simp at h1

theorem seq_eq (key : List UInt8) (boot seq other : Nat) (l : List UInt8) (s : Nat) (hq : seq < 18446744073709551616) (ho : other < 18446744073709551616) : (sealB key boot seq l s == sealB key boot other l s) = decide (seq = other) := by
  by_cases h : seq = other
  · subst h; simp
  · simp [h, sealB_other key boot seq other l s hq ho h]
theorem rd_grown {w w' : World} {g : Nat} {xs : List Value} {row : Option Nat} (h : Rd w (some ⟨g, 0, none⟩) xs) (hg : w.grownBy w' row) (hne : some g ≠ row) : Rd w' (some ⟨g, 0, none⟩) xs := by
  intro hn
  obtain ⟨b, o, hA, cs, t, fr, hb, hc⟩ := h hn
  injection hA with hA
  injection hA with h1 h2
  subst h1 h2
  exact ⟨g, 0, rfl, cs, t, fr, (hg.block g (lt_of_heap hb) hne).trans hb, hc⟩
set_option maxHeartbeats 2000000 in
set_option maxRecDepth 100000 in
theorem unlike7_calls (key : List UInt8) (hk : key.length = 32) (boot seq other : Nat) (hb : boot < 4294967296) (hq : seq < 18446744073709551616) (ho : other < 18446744073709551616) (l : List UInt8) (A : Option Addr) (n c : Nat) (hn : l.length = n)
    (hbig : n ≤ 562949953421312) (at_ : Int) (hat : -9223372036854775808 ≤ at_ ∧ at_ < 9223372036854775808) (y : UInt8) (w : World) (hr : Rd w A (bs l)) :
    Calls Try.prog 6 #[.agg (bs key).toArray, .int .u32 (boot : Int), .int .u64 (seq : Int), .int .u64 (other : Int), .slice A n c, .int .i64 at_, .int .u8 (y.toNat : Int)] w fun e w' => e = .returned (.bool true) ∧ Below w.heap.size w w' := by
  have HK := Lib.hid hk
  have HN := Lib.hid hn
  have HR := Lib.hid hr
  have HQ := Lib.hid hq
  have HO := Lib.hid ho
  have HB := Lib.hid hb
  clear hk hn hr hq ho hb
  generalize hX : bs key = X at *
  have HX := Lib.hid hX
  clear hX
  have B0 := Lib.hid (Blk.new w 58 X)
  have BB := Lib.hid ((Below.refl w.heap.size w).alloc (Nat.le_refl _) (.cells X.toArray 58))
  by_cases hlen : 300 < n
  · have hlen' : (300 : Int) < (n : Int) := by omega
    go_enter Try.func6, Try.ntmps6
    go_wp2_with fail
    refine (awake7_calls _).mono ?_
    rintro e w1 ⟨rfl, hb1⟩
    go_wp2_with fail
    go_ret
    exact ⟨rfl, BB.out.trans (hb1.mono (by simp))⟩
  · have hlen' : ¬ (300 : Int) < (n : Int) := by omega
    have C0 := Lib.hid (HR.out.alloc (.cells X.toArray 58))
    go_enter Try.func6, Try.ntmps6
    go_wp2_with (first
      | (refine wpList_getAll rfl 58 (.tmp 7) rfl rfl B0.out Try.underlying58 rfl info58 (by rw [← HX.out, bs_length, HK.out]) ?_))
    have hcall := seal_calls key HK.out boot seq HB.out l A n c HN.out ((n : Int) + 30) (by omega) _ C0.out
    rw [HX.out] at hcall
    refine hcall.mono ?_
    clear hcall
    intro e w1 hS
    obtain ⟨s, hs⟩ : ∃ s : Nat, (s : Int) = (n : Int) + 30 := ⟨n + 30, by omega⟩
    rw [← hs] at hS
    have hs2 : s = n + 30 := by omega
    obtain ⟨A1, c1, rfl, hown1, hb1⟩ := Sealed.yes hS (by rw [HN.out]; omega)
    have D0 := Lib.hid (B0.out.below hb1 B0.out.lt)
    have DB := Lib.hid (BB.out.trans (hb1.mono BB.out.size))
    have D1 := Lib.hid (Joins.ownsRow_le (base' := w.heap.size) hown1 BB.out.size)
    have HS := Lib.hid hs
    have HS2 := Lib.hid hs2
    clear hb1 hS B0 BB C0 hown1 hs2
    rw [← hs]
    clear hs
    go_wp2_with (first
      | (refine wpList_getAll rfl 58 (.tmp 7) rfl rfl D0.out Try.underlying58 rfl info58 (by rw [← HX.out, bs_length, HK.out]) ?_))
    have hcall := seal_calls key HK.out boot other HB.out l A n c HN.out (s : Int) (by have := HS2.out; omega) _ (HR.out.below DB.out)
    rw [HX.out] at hcall
    refine hcall.mono ?_
    clear hcall
    intro e w2 hS
    obtain ⟨A2, c2, rfl, hown2, hb2⟩ := Sealed.yes hS (by rw [HN.out]; have := HS2.out; omega)
    have E0 := Lib.hid (D0.out.below hb2 D0.out.lt)
    have EB := Lib.hid (DB.out.trans (hb2.mono DB.out.size))
    have E1 := Lib.hid (own_below D1.out hb2)
    have E2 := Lib.hid (Joins.ownsRow_le (base' := w.heap.size) hown2 DB.out.size)
    clear hb2 hS D0 DB D1 hown2
    go_wp2_with fail
    try simp only [Act.put]
    have HL1 : (l ++ [1]).length = n + 1 := by rw [List.length_append, HN.out]; rfl
    have HSZ := Lib.hid (show (l ++ [1]).length + 22 ≤ s by have := HS2.out; omega)
    have HS6 := Lib.hid (show s ≤ 60000 by have := HS2.out; omega)
    refine wp_region_mixT [(false, 0), (false, 1), (false, 2), (false, 4), (false, 8)] [3, 6, 5, 7, 9] [10, 11, 12, 13, 14]
      (.fork (.go 3 (.fork (.go 6 (.go 5 (.go 7 (.go 9 .stop)))) (.go 5 (.go 6 (.go 7 (.go 9 .stop)))))) (.go 6 (.go 3 (.go 5 (.go 7 (.go 9 .stop)))))) (by kernel_rfl) (by kernel_rfl)
      (fun w' => Below w2.heap.size w2 w') (fun f w' => ∃ A3 c3, f 9 = .tuple #[.slice A3 s c3, .bool true] ∧ w'.ownsRow w2.heap.size 5 1 (.slice A3 s c3) s (bs (sealB key boot seq (l ++ [1]) s))) (Below.refl _ _).drew ?_
    refine wpHead_late rfl (fun K hK => ⟨.agg X.toArray, fun w' hC => ⟨rfl, exec_getAll 58 (.tmp 7) rfl rfl (E0.out.below hC E0.out.lt) Try.underlying58 rfl info58 (by rw [← HX.out, bs_length, HK.out])⟩, hK _ ?_⟩)
    clear hK K
    simp only [Act.put, List.getElem_toArray, List.getElem_cons_succ, List.getElem_cons_zero, List.setIfInBounds_toArray, List.set_cons_zero, List.set_cons_succ]
    refine wpHead_late rfl (fun K hK => ⟨_, fun w' hC => ⟨rfl, rfl⟩, hK _ ?_⟩)
    clear hK K
    simp only [Act.put, List.getElem_toArray, List.getElem_cons_succ, List.getElem_cons_zero, List.setIfInBounds_toArray, List.set_cons_zero, List.set_cons_succ]
    refine wpHead_late rfl (fun K hK => ⟨_, fun w' hC => ⟨rfl, rfl⟩, hK _ ?_⟩)
    clear hK K
    simp only [Act.put, List.getElem_toArray, List.getElem_cons_succ, List.getElem_cons_zero, List.setIfInBounds_toArray, List.set_cons_zero, List.set_cons_succ]
    refine wpHead_late rfl (fun K hK => ⟨_, fun w' hC => ⟨rfl, rfl⟩, hK _ ?_⟩)
    clear hK K
    simp only [Act.put, List.getElem_toArray, List.getElem_cons_succ, List.getElem_cons_zero, List.setIfInBounds_toArray, List.set_cons_zero, List.set_cons_succ]
    refine wpHead_late rfl (fun K hK => ⟨_, fun w' hC => ⟨rfl, rfl⟩, hK _ ?_⟩)
    clear hK K
    simp only [Act.put, List.getElem_toArray, List.getElem_cons_succ, List.getElem_cons_zero, List.setIfInBounds_toArray, List.set_cons_zero, List.set_cons_succ]
    try simp only [Act.eval, List.getElem_toArray, List.getElem_cons_succ, List.getElem_cons_zero, Array.getD_eq_getD_getElem?, List.getElem?_toArray, List.getElem?_cons_succ, List.getElem?_cons_zero, Option.getD_some]
    unfold wpHead wpMeet
    refine ⟨⟨?_, ?_⟩, ?_⟩
    · have bb := (Below.refl w2.heap.size w2).drew
      refine wpTr_turn (v := .slice (some ⟨(w2.drew).heap.size, 0, none⟩) 0 0) (w' := (w2.drew).alloc (.cells #[] 5)) rfl rfl (by go_simp) (bb.alloc (by simp <;> omega) _) ?_
      simp only [Act.put, List.getElem_toArray, List.getElem_cons_succ, List.getElem_cons_zero, List.setIfInBounds_toArray, List.set_cons_zero, List.set_cons_succ]
      have own0 := own_empty (w2.drew) w2.heap.size (by simp <;> omega)
      replace bb := bb.alloc (by simp <;> omega) (.cells #[] 5)
      refine ⟨?_, ?_⟩
      · refine wpTr_turn (v := .slice (some ⟨((w2.drew).alloc (.cells #[] 5)).heap.size, 0, none⟩) 1 1) (w' := ((w2.drew).alloc (.cells #[] 5)).alloc (.cells #[.int .u8 1] 5)) rfl rfl (by go_simp) (bb.alloc (by simp <;> omega) _) ?_
        simp only [Act.put, List.getElem_toArray, List.getElem_cons_succ, List.getElem_cons_zero, List.setIfInBounds_toArray, List.set_cons_zero, List.set_cons_succ]
        have rd6 : Rd (((w2.drew).alloc (.cells #[] 5)).alloc (.cells #[.int .u8 1] 5)) (some ⟨((w2.drew).alloc (.cells #[] 5)).heap.size, 0, none⟩) (bs [1]) := (Blk.new ((w2.drew).alloc (.cells #[] 5)) 5 (bs [1])).rdAll
        replace bb := bb.alloc (by simp <;> omega) (.cells #[.int .u8 1] 5)
        replace own0 := own0.alloc (.cells #[.int .u8 1] 5)
        refine wpTr_appAny S41 rfl rfl (.tmp 60) (.tmp 61) rfl rfl rfl own0 ((HR.out.below EB.out).below bb) (by rw [bs_length, HN.out]; omega) (bs_one _) (by omega) (by unfold maxLen; omega) (by simp <;> omega) ?_
        intro v4 w4 own4 hg4 hl4
        have b4 := below_grown bb own0 hg4 (by simp <;> omega)
        refine ⟨b4, ?_⟩
        simp only [Act.put, List.getElem_toArray, List.getElem_cons_succ, List.getElem_cons_zero, List.setIfInBounds_toArray, List.set_cons_zero, List.set_cons_succ]
        have rd64 : Rd w4 _ (bs [1]) := rd_grown rd6 hg4 (fun h => by have h := Option.some.inj h; simp at h)
        rw [List.nil_append, Nat.zero_add] at own4
        refine wpTr_appAny S41 rfl rfl (.tmp 62) (.tmp 63) rfl rfl rfl own4 rd64 (by rfl) (bs_one _) (by omega) (by unfold maxLen; omega) b4.size ?_
        intro v5 w5 own5 hg5 hl5
        have b5 := below_grown b4 own4 hg5 b4.size
        refine ⟨b5, ?_⟩
        simp only [Act.put, List.getElem_toArray, List.getElem_cons_succ, List.getElem_cons_zero, List.setIfInBounds_toArray, List.set_cons_zero, List.set_cons_succ]
        rw [← bs_append] at own5
        obtain ⟨A5, c5, rfl⟩ := own_slice own5
        have hcall := seal_calls key HK.out boot seq HB.out (l ++ [1]) A5 (n + 1) c5 HL1 (s : Int) (by have := HS6.out; omega) w5 (Rd.of_own own5)
        rw [HX.out] at hcall
        refine wpTr_call (f := 33) rfl rfl (by exact exec_enter (xl := [.tmp 57, .tmp 58, .tmp 59, .tmp 64, .tmp 65]) rfl rfl Try.func33 rfl rfl _) hcall ?_
        intro e w6 hS
        obtain ⟨A6, c6, rfl, hown6, hb6⟩ := Sealed.yes hS HSZ.out
        have b6 := b5.trans (hb6.mono b5.size)
        refine ⟨_, rfl, b6, ?_⟩
        simp only [Act.put, List.getElem_toArray, List.getElem_cons_succ, List.getElem_cons_zero, List.setIfInBounds_toArray, List.set_cons_zero, List.set_cons_succ]
        unfold wpTr
        refine ⟨b6, (fun | 3 => .slice (some ⟨w2.drew.heap.size, 0, none⟩) 0 0 | 6 => .slice (some ⟨(w2.drew.alloc (.cells #[] 5)).heap.size, 0, none⟩) 1 1 | 5 => v4 | 7 => .slice A5 (n + 1) c5 | 9 => .tuple #[.slice A6 s c6, .bool true] | _ => undef), ?_, A6, c6, rfl, Joins.ownsRow_le hown6 b5.size⟩
        rfl
      · refine wpTr_appAny S41 rfl rfl (.tmp 60) (.tmp 61) rfl rfl rfl own0 ((HR.out.below EB.out).below bb) (by rw [bs_length, HN.out]; omega) (bs_one _) (by omega) (by unfold maxLen; omega) (by simp <;> omega) ?_
        intro v4 w4 own4 hg4 hl4
        have b4 := below_grown bb own0 hg4 (by simp <;> omega)
        refine ⟨b4, ?_⟩
        simp only [Act.put, List.getElem_toArray, List.getElem_cons_succ, List.getElem_cons_zero, List.setIfInBounds_toArray, List.set_cons_zero, List.set_cons_succ]
        rw [List.nil_append, Nat.zero_add] at own4
        refine wpTr_turn (v := .slice (some ⟨w4.heap.size, 0, none⟩) 1 1) (w' := w4.alloc (.cells #[.int .u8 1] 5)) rfl rfl (by go_simp) (b4.alloc b4.size _) ?_
        simp only [Act.put, List.getElem_toArray, List.getElem_cons_succ, List.getElem_cons_zero, List.setIfInBounds_toArray, List.set_cons_zero, List.set_cons_succ]
        have rd64 : Rd (w4.alloc (.cells #[.int .u8 1] 5)) (some ⟨w4.heap.size, 0, none⟩) (bs [1]) := (Blk.new w4 5 (bs [1])).rdAll
        replace own4 := own4.alloc (.cells #[.int .u8 1] 5)
        replace b4 := b4.alloc b4.size (.cells #[.int .u8 1] 5)
        refine wpTr_appAny S41 rfl rfl (.tmp 62) (.tmp 63) rfl rfl rfl own4 rd64 (by rfl) (bs_one _) (by omega) (by unfold maxLen; omega) b4.size ?_
        intro v5 w5 own5 hg5 hl5
        have b5 := below_grown b4 own4 hg5 b4.size
        refine ⟨b5, ?_⟩
        simp only [Act.put, List.getElem_toArray, List.getElem_cons_succ, List.getElem_cons_zero, List.setIfInBounds_toArray, List.set_cons_zero, List.set_cons_succ]
        rw [← bs_append] at own5
        obtain ⟨A5, c5, rfl⟩ := own_slice own5
        have hcall := seal_calls key HK.out boot seq HB.out (l ++ [1]) A5 (n + 1) c5 HL1 (s : Int) (by have := HS6.out; omega) w5 (Rd.of_own own5)
        rw [HX.out] at hcall
        refine wpTr_call (f := 33) rfl rfl (by exact exec_enter (xl := [.tmp 57, .tmp 58, .tmp 59, .tmp 64, .tmp 65]) rfl rfl Try.func33 rfl rfl _) hcall ?_
        intro e w6 hS
        obtain ⟨A6, c6, rfl, hown6, hb6⟩ := Sealed.yes hS HSZ.out
        have b6 := b5.trans (hb6.mono b5.size)
        refine ⟨_, rfl, b6, ?_⟩
        simp only [Act.put, List.getElem_toArray, List.getElem_cons_succ, List.getElem_cons_zero, List.setIfInBounds_toArray, List.set_cons_zero, List.set_cons_succ]
        unfold wpTr
        refine ⟨b6, (fun | 3 => .slice (some ⟨w2.drew.heap.size, 0, none⟩) 0 0 | 6 => .slice (some ⟨w4.heap.size, 0, none⟩) 1 1 | 5 => v4 | 7 => .slice A5 (n + 1) c5 | 9 => .tuple #[.slice A6 s c6, .bool true] | _ => undef), ?_, A6, c6, rfl, Joins.ownsRow_le hown6 b5.size⟩
        rfl
    · have bb := (Below.refl w2.heap.size w2).drew
      refine wpTr_turn (v := .slice (some ⟨(w2.drew).heap.size, 0, none⟩) 1 1) (w' := (w2.drew).alloc (.cells #[.int .u8 1] 5)) rfl rfl (by go_simp) (bb.alloc (by simp <;> omega) _) ?_
      simp only [Act.put, List.getElem_toArray, List.getElem_cons_succ, List.getElem_cons_zero, List.setIfInBounds_toArray, List.set_cons_zero, List.set_cons_succ]
      have rd6 : Rd ((w2.drew).alloc (.cells #[.int .u8 1] 5)) (some ⟨(w2.drew).heap.size, 0, none⟩) (bs [1]) := (Blk.new (w2.drew) 5 (bs [1])).rdAll
      replace bb := bb.alloc (by simp <;> omega) (.cells #[.int .u8 1] 5)
      refine wpTr_turn (v := .slice (some ⟨((w2.drew).alloc (.cells #[.int .u8 1] 5)).heap.size, 0, none⟩) 0 0) (w' := ((w2.drew).alloc (.cells #[.int .u8 1] 5)).alloc (.cells #[] 5)) rfl rfl (by go_simp) (bb.alloc (by simp <;> omega) _) ?_
      simp only [Act.put, List.getElem_toArray, List.getElem_cons_succ, List.getElem_cons_zero, List.setIfInBounds_toArray, List.set_cons_zero, List.set_cons_succ]
      have own0 := own_empty ((w2.drew).alloc (.cells #[.int .u8 1] 5)) w2.heap.size (by simp <;> omega)
      replace bb := bb.alloc (by simp <;> omega) (.cells #[] 5)
      replace rd6 := rd6.alloc (.cells #[] 5)
      refine wpTr_appAny S41 rfl rfl (.tmp 60) (.tmp 61) rfl rfl rfl own0 ((HR.out.below EB.out).below bb) (by rw [bs_length, HN.out]; omega) (bs_one _) (by omega) (by unfold maxLen; omega) (by simp <;> omega) ?_
      intro v4 w4 own4 hg4 hl4
      have b4 := below_grown bb own0 hg4 (by simp <;> omega)
      refine ⟨b4, ?_⟩
      simp only [Act.put, List.getElem_toArray, List.getElem_cons_succ, List.getElem_cons_zero, List.setIfInBounds_toArray, List.set_cons_zero, List.set_cons_succ]
      have rd64 : Rd w4 _ (bs [1]) := rd_grown rd6 hg4 (fun h => by have h := Option.some.inj h; simp at h)
      rw [List.nil_append, Nat.zero_add] at own4
      refine wpTr_appAny S41 rfl rfl (.tmp 62) (.tmp 63) rfl rfl rfl own4 rd64 (by rfl) (bs_one _) (by omega) (by unfold maxLen; omega) b4.size ?_
      intro v5 w5 own5 hg5 hl5
      have b5 := below_grown b4 own4 hg5 b4.size
      refine ⟨b5, ?_⟩
      simp only [Act.put, List.getElem_toArray, List.getElem_cons_succ, List.getElem_cons_zero, List.setIfInBounds_toArray, List.set_cons_zero, List.set_cons_succ]
      rw [← bs_append] at own5
      obtain ⟨A5, c5, rfl⟩ := own_slice own5
      have hcall := seal_calls key HK.out boot seq HB.out (l ++ [1]) A5 (n + 1) c5 HL1 (s : Int) (by have := HS6.out; omega) w5 (Rd.of_own own5)
      rw [HX.out] at hcall
      refine wpTr_call (f := 33) rfl rfl (by exact exec_enter (xl := [.tmp 57, .tmp 58, .tmp 59, .tmp 64, .tmp 65]) rfl rfl Try.func33 rfl rfl _) hcall ?_
      intro e w6 hS
      obtain ⟨A6, c6, rfl, hown6, hb6⟩ := Sealed.yes hS HSZ.out
      have b6 := b5.trans (hb6.mono b5.size)
      refine ⟨_, rfl, b6, ?_⟩
      simp only [Act.put, List.getElem_toArray, List.getElem_cons_succ, List.getElem_cons_zero, List.setIfInBounds_toArray, List.set_cons_zero, List.set_cons_succ]
      unfold wpTr
      refine ⟨b6, (fun | 3 => .slice (some ⟨(w2.drew.alloc (.cells #[.int .u8 1] 5)).heap.size, 0, none⟩) 0 0 | 6 => .slice (some ⟨w2.drew.heap.size, 0, none⟩) 1 1 | 5 => v4 | 7 => .slice A5 (n + 1) c5 | 9 => .tuple #[.slice A6 s c6, .bool true] | _ => undef), ?_, A6, c6, rfl, Joins.ownsRow_le hown6 b5.size⟩
      rfl
    intro f wr hb ⟨A3, c3, hf, hown3⟩
    simp only [puts, Act.put, List.getElem?_toArray, List.getElem?_cons_succ, List.getElem?_cons_zero, List.setIfInBounds_toArray, List.set_cons_zero, List.set_cons_succ]
    rw [hf]
    clear hf
    unfold wpRest
    simp only [List.map_cons, List.map_nil]
    iterate 5
      refine wpHead_early rfl (fun K hK => ?_)
      go_simp
      refine hK _ ?_
      clear hK K
    unfold wpHead
    have F0 := Lib.hid (E0.out.below hb E0.out.lt)
    have FB := Lib.hid (EB.out.trans (hb.mono EB.out.size))
    have F1 := Lib.hid (own_below E1.out hb)
    have F2 := Lib.hid (own_below E2.out hb)
    have F3 := Lib.hid (Joins.ownsRow_le (base' := w.heap.size) hown3 EB.out.size)
    clear hb hown3 E0 EB E1 E2
    have hv1 : (sealB key boot seq l s).length = s := sealB_length _ _ _ _ _ (by rw [HN.out]; have := HS2.out; omega)
    have hv2 : (sealB key boot other l s).length = s := sealB_length _ _ _ _ _ (by rw [HN.out]; have := HS2.out; omega)
    have hv3 : (sealB key boot seq (l ++ [1]) s).length = s := sealB_length _ _ _ _ _ HSZ.out
    have ht1 : (sealB key boot seq l s).take 12 = hdB boot seq := sealB_take _ _ _ _ _
    have ht3 : (sealB key boot seq (l ++ [1]) s).take 12 = hdB boot seq := sealB_take _ _ _ _ _
    have H12 := Lib.hid (seq_eq key boot seq other l s HQ.out HO.out)
    have H13 := Lib.hid (sealB_longer key boot seq l s HB.out HQ.out (by rw [HN.out]; have := HS2.out; omega) HS6.out)
    have HOP := Lib.hid (open_seal key boot seq l s HB.out HQ.out (by rw [HN.out]; have := HS2.out; omega) HS6.out)
    have hc1 : (12 : Int) ≤ (c1 : Int) := by have := (own_at F1.out (by have := HS2.out; omega)).choose_spec.2.1; have := HS2.out; omega
    have hc3 : (12 : Int) ≤ (c3 : Int) := by have := (own_at F3.out (by have := HS2.out; omega)).choose_spec.2.1; have := HS2.out; omega
    generalize sealB key boot seq l s = V1 at *
    generalize sealB key boot other l s = V2 at *
    generalize sealB key boot seq (l ++ [1]) s = V3 at *
    have hl12 : (hdB boot seq).length = 12 := hdB_length _ _
    generalize hdB boot seq = h at *
    go_wp2_with fail
    have s1 := run_bytes_string (P := Try.prog) (w := wr.drew) Try.underlying41 Try.underlying5 Try.underlying9 (show Rd wr.drew A1 (bs V1) from Rd.of_own F1.out) c1
    have s2 := run_bytes_string (P := Try.prog) (w := wr.drew) Try.underlying41 Try.underlying5 Try.underlying9 (show Rd wr.drew A2 (bs V2) from Rd.of_own F2.out) c2
    have s3 := run_bytes_string (P := Try.prog) (w := wr.drew) Try.underlying41 Try.underlying5 Try.underlying9 (show Rd wr.drew A3 (bs V3) from Rd.of_own F3.out) c3
    have s4 := run_bytes_string (P := Try.prog) (w := wr.drew) Try.underlying41 Try.underlying5 Try.underlying9 (show Rd wr.drew A1 (bs h) by have := rd_to (Rd.of_own F1.out) 12; rw [ht1] at this; exact this) c1
    have s5 := run_bytes_string (P := Try.prog) (w := wr.drew) Try.underlying41 Try.underlying5 Try.underlying9 (show Rd wr.drew A3 (bs h) by have := rd_to (Rd.of_own F3.out) 12; rw [ht3] at this; exact this) c3
    rw [hv1] at s1
    rw [hv2] at s2
    rw [hv3] at s3
    rw [hl12] at s4 s5
    have HV1 := Lib.hid hv1
    clear hv1 hv2 hv3 ht1 ht3 hl12
    have e13 : (V1 == V3) = false := by simpa using H13.out
    obtain ⟨q, e12, eso⟩ : ∃ q : Bool, (V1 == V2) = q ∧ ((seq : Int) == (other : Int)) = q := ⟨decide (seq = other), H12.out, by by_cases h : seq = other <;> simp [h]; omega⟩
    try simp only [Act.put]
    refine wp_region_mix [(true, 0), (true, 1), (true, 2), (true, 3), (true, 4), (true, 5), (true, 6), (true, 7), (true, 8), (true, 9), (true, 10), (true, 11), (true, 12), (true, 13), (true, 14), (true, 15), (true, 16), (true, 17), (true, 18), (true, 19), (true, 20), (true, 21), (true, 22), (true, 23), (true, 24), (true, 25), (true, 26), (true, 27), (true, 28), (true, 29), (true, 30), (true, 31), (true, 32), (true, 33), (true, 34), (true, 35), (true, 36), (true, 37), (true, 38), (true, 39), (true, 40), (true, 41), (true, 42), (true, 43), (true, 44), (true, 45), (true, 46), (true, 47), (true, 48)] [] (by kernel_rfl) (by kernel_rfl) (fun _ => True) trivial ?_
    iterate 49
      refine wpHead_early rfl (fun K hK => ?_)
      go_simp
      refine hK _ ?_
      clear hK K
    unfold wpHead wpStores
    clear s1 s2 s3 s4 s5 e12 eso e13
    have hown0 := own_empty wr.drew wr.heap.size (Nat.le_refl _)
    have bE := ((Below.refl wr.heap.size wr).drew).alloc (Nat.le_refl _) (.cells #[] 5)
    have G1 := Lib.hid (show (wr.drew).ownsRow w.heap.size 5 1 (.slice A1 s c1) s (bs V1) from F1.out)
    have hw0 := F0.out.lt
    have h16 := i64_and65535 at_
    have hs0 : 0 < s := by have := HS2.out; omega
    obtain ⟨j, hj⟩ : ∃ j : Nat, at_ % 65536 % (s : Int) = (j : Int) := ⟨(at_ % 65536 % (s : Int)).toNat, by have := Int.emod_nonneg (at_ % 65536) (b := (s : Int)) (by omega); omega⟩
    have hj1 : (j : Int) < (s : Int) := by rw [← hj]; exact Int.emod_lt_of_pos _ (by omega)
    have hj2 : j < s := by omega
    have hm0 : 0 ≤ at_ % 65536 := by omega
    go_wp2_with (first
      | (at_builtin; refine wpList_appAny (v := .slice (some ⟨wr.heap.size, 0, none⟩) 0 0) S41 rfl (.tmp 118) (.tmp 119) rfl rfl rfl hown0 ((Rd.of_own G1.out).alloc _) (by rw [bs_length, HV1.out]; omega) (bs_one _) (by have := HS6.out; omega) (by have := HS6.out; unfold maxLen; omega) (by simp) ?_
         intro v8 w8 hown8 hg8 _
         have b8 := Lib.hid (below_grown bE hown0 hg8 (by simp))
         clear hg8 hown0 bE
         rw [List.nil_append, Nat.zero_add] at hown8
         obtain ⟨A8, c8, hv8⟩ := own_slice hown8
         subst hv8
         have O8 := Lib.hid hown8
         clear hown8))
    have hown8 := O8.out
    obtain ⟨g8, hA8, hc8, hg8, hg8'⟩ := own_at hown8 (by omega)
    subst hA8
    obtain ⟨cs, hcs, hcl, hget, hset⟩ := own_put hown8 hj2
    have hjr : j < V1.length := by rw [HV1.out]; exact hj2
    obtain ⟨x, hx⟩ : ∃ x, x = V1[j] := ⟨_, rfl⟩
    have p0 := hcs.cellAt (i := j) (v := .int .u8 (x.toNat : Int)) ((hget j hj2).trans (by rw [List.getElem?_map, List.getElem?_eq_getElem hjr, hx]; rfl))
    have HSet := Lib.hid hset
    have HC := Lib.hid hcs
    have HU := Lib.hid (show (bs V1).set j (byt (x ^^^ y)) = bs (V1.set j (x ^^^ y)) from List.map_set.symm)
    have hxy := xor8 x y
    have HZ := Lib.hid (show y = 0 → V1.set j (x ^^^ y) = V1 by intro hy; subst hy; rw [hx]; simp)
    clear hset hcs hget hown8 hx
    have j0 : (0 : Int) ≤ (j : Int) := by omega
    go_simp
    have I0 := Lib.hid (F0.out.below b8.out hw0)
    go_wp2_with (first
      | (refine wpList_put rfl 5 (.tmp 130) (.tmp 129) rfl rfl rfl HC.out (vs := [byt (x ^^^ y)]) rfl info5 (by simp; omega) (by simp [byt, Value.oneCell']) ?_
         intro w9 hP9 hg9
         have O9 := Lib.hid (HSet.out _ _ hP9)
         have b9 := Lib.hid (b8.out.grown hg9 b8.out.size (fun q hq => by cases hq; omega))
         have J0 := Lib.hid (F0.out.below b9.out hw0)
         have JB := Lib.hid (FB.out.trans (b9.out.mono FB.out.size))
         clear hP9 hg9 b9)
      | (refine wpList_getAll rfl 58 (.tmp 7) rfl rfl J0.out Try.underlying58 rfl info58 (by rw [← HX.out, bs_length, HK.out]) ?_))
    have O10 := Lib.hid (show w9.ownsRow wr.heap.size 5 1 (.slice (some ⟨g8, 0, none⟩) s c8) s (bs (V1.set j (x ^^^ y))) by rw [← HU.out]; exact O9.out)
    have HVL := Lib.hid (show (V1.set j (x ^^^ y)).length = s by rw [List.length_set]; exact HV1.out)
    clear O9 p0
    generalize V1.set j (x ^^^ y) = V at *
    have hcall := open_calls key HK.out V (some ⟨g8, 0, none⟩) s c8 HVL.out hc8 HS6.out w9 (.of_own O10.out)
    rw [HX.out] at hcall
    refine hcall.mono ?_
    clear hcall
    intro e w10 hS
    obtain ⟨A10, c10, rfl, _, hb10⟩ := hS.both
    have K0 := Lib.hid (J0.out.below hb10 J0.out.lt)
    have KB := Lib.hid (JB.out.trans (hb10.mono JB.out.size))
    have KO := Lib.hid (own_below O10.out hb10)
    clear hb10 hS J0 JB O10
    go_wp2_with (first
      | (refine wpList_getAll rfl 58 (.tmp 7) rfl rfl K0.out Try.underlying58 rfl info58 (by rw [← HX.out, bs_length, HK.out]) ?_))
    have hcall := ropen_calls key HK.out V (some ⟨g8, 0, none⟩) s c8 HVL.out hc8 HS6.out w10 (.of_own KO.out)
    rw [HX.out] at hcall
    refine hcall.mono ?_
    clear hcall
    intro e w11 hS
    obtain ⟨A11, c11, rfl, _, hb11⟩ := hS.both
    have LB := Lib.hid (KB.out.trans (hb11.mono KB.out.size))
    clear hb11 hS K0 KB KO
    have hopen : y = 0 → (openV key V).2.2.2 = true := by
      intro hy
      rw [HZ.out hy]
      unfold openV
      rw [HOP.out]
    generalize openV key V = U at *
    obtain ⟨u1, u2, u3, u4⟩ := U
    simp only at *
    by_cases hy : y = 0
    · have hu := hopen hy
      subst hu
      subst hy
      go_wp2_with fail
      refine (awake7_calls _).mono ?_
      rintro e w12 ⟨rfl, hb12⟩
      go_wp2_with fail
      go_ret
      exact ⟨rfl, LB.out.trans (hb12.mono LB.out.size)⟩
    · have hy2 : ((y.toNat : Int) != 0) = true := by
        have : y.toNat ≠ 0 := fun h => hy (UInt8.toNat_inj.1 (by simpa using h))
        simp; omega
      clear hopen
      go_wp2_with fail
      refine (awake7_calls _).mono ?_
      rintro e w12 ⟨rfl, hb12⟩
      go_wp2_with fail
      go_ret
      exact ⟨rfl, LB.out.trans (hb12.mono LB.out.size)⟩
end Go.Proofs.Ytbdnoiaglighhaa
