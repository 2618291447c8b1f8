/- The walk of dumbwaiterlaw7.SealTells. No statement is proved here. -/
import Derived.Test.YtbdnoiaglighhaaAwake7
namespace Go.Proofs.Ytbdnoiaglighhaa
set_option linter.unusedVariables false
set_option linter.unusedSimpArgs false
open Go.RowKit

/-- What Seal gives. -/
def sealV (key : List UInt8) (boot seq : Nat) (l : List UInt8) (size : Int) : List UInt8 × Bool := if (l.length : Int) + 22 ≤ size then (sealB key boot seq l size.toNat, true) else ([], false)
/-- What Open gives. -/
def openV (key raw : List UInt8) : List UInt8 × Nat × Nat × Bool := match openB key raw with | some (t, b, q) => (t, b, q, true) | none => ([], 0, 0, false)

theorem Sealed.both {key : List UInt8} {boot seq : Nat} {l : List UInt8} {size : Int} {w : World} {e : Ending} {w' : World} (h : Sealed key boot seq l size w e w') :
    ∃ A c, e = .returned (.tuple #[.slice A (sealV key boot seq l size).1.length c, .bool (sealV key boot seq l size).2]) ∧ Rd w' A (bs (sealV key boot seq l size).1) ∧ (sealV key boot seq l size).1.length ≤ c ∧ Below w.heap.size w w' := by
  rcases h with ⟨s, v, rfl, hl, he, ho, hb⟩ | ⟨h1, he, hb⟩
  · obtain ⟨A, c, rfl⟩ := own_slice ho
    have e1 : sealV key boot seq l (s : Int) = (sealB key boot seq l s, true) := by unfold sealV; rw [if_pos (by omega)]; rfl
    rw [e1]
    have e2 := sealB_length key boot seq l s hl
    refine ⟨A, c, by rw [he, e2], .of_own ho, ?_, hb⟩
    show (sealB key boot seq l s).length ≤ c
    rw [e2]
    exact (own_at ho (by omega)).choose_spec.2.1
  · have e1 : sealV key boot seq l size = ([], false) := by unfold sealV; rw [if_neg (by omega)]
    rw [e1]
    exact ⟨none, 0, he, .nil _ _, Nat.le_refl _, hb⟩
theorem Opened.both {key raw : List UInt8} {w : World} {e : Ending} {w' : World} (h : Opened key raw w e w') :
    ∃ A c, e = .returned (.tuple #[.slice A (openV key raw).1.length c, .int .u32 ((openV key raw).2.1 : Nat), .int .u64 ((openV key raw).2.2.1 : Nat), .bool (openV key raw).2.2.2]) ∧ Rd w' A (bs (openV key raw).1) ∧ Below w.heap.size w w' := by
  rcases h with ⟨t, b, q, v, h1, _, _, he, ho, hb⟩ | ⟨h1, he, hb⟩
  · obtain ⟨A, c, rfl⟩ := own_slice ho
    have e1 : openV key raw = (t, b, q, true) := by unfold openV; rw [h1]
    rw [e1]
    exact ⟨A, c, he, .of_own ho, hb⟩
  · have e1 : openV key raw = ([], 0, 0, false) := by unfold openV; rw [h1]
    rw [e1]
    exact ⟨none, 0, he, .nil _ _, hb⟩
theorem same_at (A B : Option Addr) (n m c d : Nat) (l k : List UInt8) (w : World) (hn : l.length = n) (hm : k.length = m) (hl : Rd w A (bs l)) (hk : Rd w B (bs k)) :
    Calls Try.prog 37 #[.slice A n c, .slice B m d] w fun e w' => e = .returned (.bool (l == k)) ∧ w = w' := by
  subst hn hm; exact same_calls A B c d l k w hl hk

theorem i64_and1023 (n : Int) : bits .and .i64 n 1023 = n % 1024 := by
  have hm : (BitVec.ofInt 64 1023).toNat = 2 ^ 10 - 1 := by decide
  have key : (BitVec.ofInt 64 n &&& BitVec.ofInt 64 1023).toNat = (n % ((2 ^ 64 : Nat) : Int)).toNat % 2 ^ 10 := by
    rw [BitVec.toNat_and, BitVec.toNat_ofInt, hm, Nat.and_two_pow_sub_one_eq_mod]
  show IntKind.i64.wrap ((BitVec.ofInt 64 n &&& BitVec.ofInt 64 1023).toNat : Nat) = n % 1024
  rw [key, IntKind.wrap_i64]
  omega
theorem i64_and15 (n : Int) : bits .and .i64 n 15 = n % 16 := by
  have hm : (BitVec.ofInt 64 15).toNat = 2 ^ 4 - 1 := by decide
  have key : (BitVec.ofInt 64 n &&& BitVec.ofInt 64 15).toNat = (n % ((2 ^ 64 : Nat) : Int)).toNat % 2 ^ 4 := by
    rw [BitVec.toNat_and, BitVec.toNat_ofInt, hm, Nat.and_two_pow_sub_one_eq_mod]
  show IntKind.i64.wrap ((BitVec.ofInt 64 n &&& BitVec.ofInt 64 15).toNat : Nat) = n % 16
  rw [key, IntKind.wrap_i64]
  omega
theorem i64_and65535 (n : Int) : bits .and .i64 n 65535 = n % 65536 := by
  have hm : (BitVec.ofInt 64 65535).toNat = 2 ^ 16 - 1 := by decide
  have key : (BitVec.ofInt 64 n &&& BitVec.ofInt 64 65535).toNat = (n % ((2 ^ 64 : Nat) : Int)).toNat % 2 ^ 16 := by
    rw [BitVec.toNat_and, BitVec.toNat_ofInt, hm, Nat.and_two_pow_sub_one_eq_mod]
  show IntKind.i64.wrap ((BitVec.ofInt 64 n &&& BitVec.ofInt 64 65535).toNat : Nat) = n % 65536
  rw [key, IntKind.wrap_i64]
  omega
set_option maxHeartbeats 2000000 in
set_option maxRecDepth 100000 in
theorem tells7_calls (key : List UInt8) (hk : key.length = 32) (boot seq : Nat) (hb : boot < 4294967296) (l : List UInt8) (A : Option Addr) (n c : Nat) (hn : l.length = n) (size : Int) (h64 : size < 9223372036854775808)
    (raw : List UInt8) (B : Option Addr) (m d : Nat) (hm : raw.length = m) (hmd : m ≤ d) (hbig : n + m ≤ 562949953421312) (at_ : Int) (hat : -9223372036854775808 ≤ at_ ∧ at_ < 9223372036854775808) (y : UInt8) (w : World) (hr : Rd w A (bs l)) (hr2 : Rd w B (bs raw)) :
    Calls Try.prog 7 #[.agg (bs key).toArray, .int .u32 (boot : Int), .int .u64 (seq : Int), .slice A n c, .int .i64 size, .slice B m d, .int .i64 at_, .int .u8 (y.toNat : Int)] w fun e w' => e = .returned (.bool true) ∧ Below w.heap.size w w' := by
  have HK := Lib.hid hk
  have HN := Lib.hid hn
  have HM := Lib.hid hm
  have HR := Lib.hid hr
  have HR2 := Lib.hid hr2
  have HAT := Lib.hid hat
  have H64 := Lib.hid h64
  clear hk hn hm hr hr2 hat h64
  generalize hX : bs key = X at *
  have HX := Lib.hid hX
  clear hX
  have B0 := Lib.hid (Blk.new w 58 X)
  have BB := Lib.hid ((Below.refl w.heap.size w).alloc (Nat.le_refl _) (.cells X.toArray 58))
  by_cases hlen : 1500 < n + m
  · have hlen' : (1500 : Int) < (n : Int) + (m : Int) := by omega
    go_enter Try.func7, Try.ntmps7
    go_wp2_with fail
    refine (awake7_calls _).mono ?_
    rintro e w1 ⟨rfl, hb1⟩
    go_wp2_with fail
    go_ret
    exact ⟨rfl, BB.out.trans (hb1.mono (by simp))⟩
  · have hlen' : ¬ (1500 : Int) < (n : Int) + (m : Int) := by omega
    have ha := i64_and1023 size
    have C0 := Lib.hid (HR.out.alloc (.cells X.toArray 58))
    have C2 := Lib.hid (HR2.out.alloc (.cells X.toArray 58))
    go_enter Try.func7, Try.ntmps7
    go_wp2_with fail
    all_goals
      go_loopw [4, 5, 17] (fun z r i wr => ∃ k : Nat, k ≤ 3 ∧ i = .int .i64 (k : Int) ∧ (∃ s : Int, z = .int .i64 s ∧ s ≤ 60000) ∧ (∃ (rl : List UInt8) (A' : Option Addr) (m' d' : Nat), r = .slice A' m' d' ∧ rl.length = m' ∧ m' ≤ d' ∧ m' ≤ 60000 ∧ Rd wr A' (bs rl)) ∧ Blk wr w.heap.size 58 X ∧ Below w.heap.size w wr) (fun _ _ i _ => 3 - (intOf i).toNat)
      case atStart =>
        first
          | exact ⟨0, by omega, rfl, ⟨size, rfl, by omega⟩, ⟨raw, B, m, d, rfl, HM.out, hmd, by omega, C2.out⟩, B0.out, BB.out⟩
          | exact ⟨0, by omega, rfl, ⟨size % 1024, rfl, by omega⟩, ⟨raw, B, m, d, rfl, HM.out, hmd, by omega, C2.out⟩, B0.out, BB.out⟩
      case round =>
        obtain ⟨k, hk, rfl, ⟨s, rfl, hs⟩, ⟨rl, A', m', d', rfl, hrl, hmd', hm60, hrd⟩, d0, db⟩ := hrel
        clear B0 BB C0 C2 ha
        have D0 := Lib.hid d0
        have DB := Lib.hid db
        have DR := Lib.hid (HR.out.below db)
        have DW := Lib.hid hrd
        have HRL := Lib.hid hrl
        clear d0 db hrd hrl
        by_cases hlt : k < 3
        · go_wp2_with (first
            | (refine wpList_getAll rfl 58 (.tmp 8) rfl rfl D0.out Try.underlying58 rfl info58 (by rw [← HX.out, bs_length, HK.out]) ?_))
          have hcall := seal_calls key HK.out boot seq hb l A n c HN.out s hs _ DR.out
          rw [HX.out] at hcall
          refine hcall.mono ?_
          clear hcall
          intro e w1 hS
          obtain ⟨A1, c1, rfl, hr1, hc1, hb1⟩ := hS.both
          have E0 := Lib.hid (D0.out.below hb1 D0.out.lt)
          have EB := Lib.hid (DB.out.trans (hb1.mono DB.out.size))
          have EW := Lib.hid (DW.out.below hb1)
          have E1 := Lib.hid hr1
          clear hb1 hr1 hS D0 DB DR DW
          go_wp2_with (first
            | (refine wpList_getAll rfl 58 (.tmp 8) rfl rfl E0.out Try.underlying58 rfl info58 (by rw [← HX.out, bs_length, HK.out]) ?_))
          have hcall := rseal_calls key HK.out boot seq hb l A n c HN.out s hs _ (HR.out.below EB.out)
          rw [HX.out] at hcall
          refine hcall.mono ?_
          clear hcall
          intro e w2 hS
          obtain ⟨A2, c2, rfl, hr2, hc2, hb2⟩ := hS.both
          have F0 := Lib.hid (E0.out.below hb2 E0.out.lt)
          have FB := Lib.hid (EB.out.trans (hb2.mono EB.out.size))
          have FW := Lib.hid (EW.out.below hb2)
          have F1 := Lib.hid (E1.out.below hb2)
          have F2 := Lib.hid hr2
          clear hb2 hr2 hS E0 EB EW E1
          generalize sealV key boot seq l s = V at *
          go_wp2_with (first
            | (refine wpList_getAll rfl 58 (.tmp 8) rfl rfl F0.out Try.underlying58 rfl info58 (by rw [← HX.out, bs_length, HK.out]) ?_))
          have hcall := open_calls key HK.out rl A' m' d' HRL.out hmd' hm60 _ FW.out
          rw [HX.out] at hcall
          refine hcall.mono ?_
          clear hcall
          intro e w3 hS
          obtain ⟨A3, c3, rfl, hr3, hb3⟩ := hS.both
          have G0 := Lib.hid (F0.out.below hb3 F0.out.lt)
          have GB := Lib.hid (FB.out.trans (hb3.mono FB.out.size))
          have GW := Lib.hid (FW.out.below hb3)
          have G1 := Lib.hid (F1.out.below hb3)
          have G2 := Lib.hid (F2.out.below hb3)
          have G3 := Lib.hid hr3
          clear hb3 hr3 hS F0 FB FW F1 F2
          go_wp2_with (first
            | (refine wpList_getAll rfl 58 (.tmp 8) rfl rfl G0.out Try.underlying58 rfl info58 (by rw [← HX.out, bs_length, HK.out]) ?_))
          have hcall := ropen_calls key HK.out rl A' m' d' HRL.out hmd' hm60 _ GW.out
          rw [HX.out] at hcall
          refine hcall.mono ?_
          clear hcall
          intro e w4 hS
          obtain ⟨A4, c4, rfl, hr4, hb4⟩ := hS.both
          have H0 := Lib.hid (G0.out.below hb4 G0.out.lt)
          have HB := Lib.hid (GB.out.trans (hb4.mono GB.out.size))
          have H1 := Lib.hid (G1.out.below hb4)
          have H2 := Lib.hid (G2.out.below hb4)
          have H3 := Lib.hid (G3.out.below hb4)
          have H4 := Lib.hid hr4
          clear hb4 hr4 hS G0 GB GW G1 G2 G3
          generalize openV key rl = U at *
          obtain ⟨v1, v2⟩ := V
          obtain ⟨u1, u2, u3, u4⟩ := U
          simp only at *
          go_wp2_with fail
          refine (same_at _ _ _ _ _ _ v1 v1 _ rfl rfl H1.out H2.out).mono ?_
          rintro e w5 ⟨rfl, rfl⟩
          rw [beq_self_eq_true]
          go_wp2_with fail
          refine (same_at _ _ _ _ _ _ u1 u1 _ rfl rfl H3.out H4.out).mono ?_
          rintro e w5 ⟨rfl, rfl⟩
          rw [beq_self_eq_true]
          go_wp2_with fail
          refine (head_calls boot seq hb _).mono ?_
          rintro e w5 ⟨rfl, hb5⟩
          have I0 := Lib.hid (H0.out.below hb5 H0.out.lt)
          have IB := Lib.hid (HB.out.trans (hb5.mono HB.out.size))
          clear hb5 H0 HB H1 H2 H3 H4
          go_wp2_with fail
          refine (rhead_calls boot seq hb _).mono ?_
          rintro e w6 ⟨rfl, hb6⟩
          have J0 := Lib.hid (I0.out.below hb6 I0.out.lt)
          have JB := Lib.hid (IB.out.trans (hb6.mono IB.out.size))
          clear hb6 I0 IB
          have heq := eq48_same (hdB boot seq) (hdB_length _ _) w6
          have h15 := i64_and15 at_
          have h16 := i64_and65535 at_
          go_wp2_with (first
            | (refine wpList_getAll rfl 58 (.tmp 8) rfl rfl J0.out Try.underlying58 rfl info58 (by rw [← HX.out, bs_length, HK.out]) ?_))
          have hmod : 0 ≤ at_ % 16 ∧ at_ % 16 < 16 := by omega
          have hcall := rseal_calls key HK.out boot seq hb l A n c HN.out ((n : Int) + 22 + at_ % 16) (by omega) _ (HR.out.below JB.out)
          rw [HX.out] at hcall
          refine hcall.mono ?_
          clear hcall
          intro e w7 hS
          obtain ⟨s2, hs2⟩ : ∃ s2 : Nat, (s2 : Int) = (n : Int) + 22 + at_ % 16 := ⟨((n : Int) + 22 + at_ % 16).toNat, by omega⟩
          rw [← hs2] at hS
          obtain ⟨A7, c7, rfl, hown7, hb7⟩ := Sealed.yes hS (by rw [HN.out]; omega)
          have K0 := Lib.hid (J0.out.below hb7 J0.out.lt)
          have KB := Lib.hid (JB.out.trans (hb7.mono JB.out.size))
          have hs3 : 22 ≤ s2 ∧ s2 ≤ 60000 := by omega
          have HS2 := Lib.hid hs2
          have K7 := Lib.hid hown7
          clear hb7 hS J0 JB hown7 hs2
          have hrl2 : (sealB key boot seq l s2).length = s2 := sealB_length _ _ _ _ _ (by rw [HN.out]; have := HS2.out; omega)
          generalize sealB key boot seq l s2 = r2 at *
          have HR2L := Lib.hid hrl2
          clear hrl2
          have hown0 := own_empty w7 w7.heap.size (Nat.le_refl _)
          have bE := (Below.refl w7.heap.size w7).alloc (Nat.le_refl _) (.cells #[] 5)
          have hw0 := K0.out.lt
          by_cases hk1 : k = 1
          · subst hk1
            obtain ⟨j, hj⟩ : ∃ j : Nat, at_ % 65536 % (s2 : Int) = (j : Int) := ⟨(at_ % 65536 % (s2 : Int)).toNat, by have := Int.emod_nonneg (at_ % 65536) (b := (s2 : Int)) (by omega); omega⟩
            have hj1 : (j : Int) < (s2 : Int) := by rw [← hj]; exact Int.emod_lt_of_pos _ (by omega)
            have hj2 : j < s2 := by omega
            go_wp2_with (first
              | (at_builtin; refine wpList_appAny (v := .slice (some ⟨w7.heap.size, 0, none⟩) 0 0) S41 rfl (.tmp 133) (.tmp 134) rfl rfl rfl hown0 ((Rd.of_own K7.out).alloc _) (by rw [bs_length, HR2L.out]; omega) (bs_one _) (by omega) (by unfold maxLen; omega) (by simp) ?_
                 intro v8 w8 hown8 hg8 _
                 have b8 := Lib.hid (below_grown bE hown0 hg8 (by simp))
                 clear hg8 hown0 bE
                 rw [List.nil_append, Nat.zero_add] at hown8
                 obtain ⟨A8, c8, hv8⟩ := own_slice hown8
                 subst hv8
                 have O8 := Lib.hid hown8
                 clear hown8))
            have hown8 := O8.out
            obtain ⟨g8, hA8, hc8, hg8, hg8'⟩ := own_at hown8 (by omega)
            subst hA8
            obtain ⟨cs, hcs, hcl, hget, hset⟩ := own_put hown8 hj2
            have hjr : j < r2.length := by rw [HR2L.out]; exact hj2
            obtain ⟨x, hx⟩ : ∃ x, x = r2[j] := ⟨_, rfl⟩
            have p0 := hcs.cellAt (i := j) (v := .int .u8 (x.toNat : Int)) ((hget j hj2).trans (by rw [List.getElem?_map, List.getElem?_eq_getElem hjr, hx]; rfl))
            have HSet := Lib.hid hset
            have HC := Lib.hid hcs
            have HU := Lib.hid (show (bs r2).set j (byt (x ^^^ y)) = bs (r2.set j (x ^^^ y)) from List.map_set.symm)
            have hxy := xor8 x y
            clear hset hcs hget hown8 hx
            have j0 : (0 : Int) ≤ (j : Int) := by omega
            go_simp
            go_wp2_with (first
              | (refine wpList_put rfl 5 (.tmp 153) (.tmp 152) rfl rfl rfl HC.out (vs := [byt (x ^^^ y)]) rfl info5 (by simp; omega) (by simp [byt, Value.oneCell']) ?_
                 intro w9 hP9 hg9
                 have O9 := Lib.hid (HSet.out _ _ hP9)
                 have b9 := Lib.hid (b8.out.grown hg9 b8.out.size (fun q hq => by cases hq; omega))
                 clear hP9 hg9))
            go_roundw
            case rel => exact ⟨2, by omega, by go_num, ⟨_, rfl, by have := HS2.out; omega⟩, ⟨r2.set j (x ^^^ y), _, s2, c8, rfl, by rw [List.length_set]; exact HR2L.out, hc8, hs3.2, by rw [← HU.out]; exact .of_own O9.out⟩, K0.out.below b9.out hw0, KB.out.trans (b9.out.mono KB.out.size)⟩
            case measure => simp [intOf]
          · have hk1' : ¬ (k : Int) = 1 := by omega
            go_wp2_with (first
              | (at_builtin; refine wpList_appAny (v := .slice (some ⟨w7.heap.size, 0, none⟩) 0 0) S41 rfl (.tmp 133) (.tmp 134) rfl rfl rfl hown0 ((Rd.of_own K7.out).alloc _) (by rw [bs_length, HR2L.out]; omega) (bs_one _) (by omega) (by unfold maxLen; omega) (by simp) ?_
                 intro v8 w8 hown8 hg8 _
                 have b8 := Lib.hid (below_grown bE hown0 hg8 (by simp))
                 clear hg8 hown0 bE
                 rw [List.nil_append, Nat.zero_add] at hown8
                 obtain ⟨A8, c8, hv8⟩ := own_slice hown8
                 subst hv8
                 have O8 := Lib.hid hown8
                 clear hown8))
            go_roundw
            case rel => exact ⟨k + 1, by omega, by go_num, ⟨_, rfl, by have := HS2.out; omega⟩, ⟨r2, A8, s2, c8, rfl, HR2L.out, (own_at O8.out (by omega)).choose_spec.2.1, hs3.2, .of_own O8.out⟩, K0.out.below b8.out hw0, KB.out.trans (b8.out.mono KB.out.size)⟩
            case measure => simp [intOf]; omega
        · go_wp2_with fail
          refine (awake7_calls _).mono ?_
          rintro e w1 ⟨rfl, hb1⟩
          go_wp2_with fail
          go_ret
          exact ⟨rfl, DB.out.trans (hb1.mono DB.out.size)⟩
end Go.Proofs.Ytbdnoiaglighhaa
