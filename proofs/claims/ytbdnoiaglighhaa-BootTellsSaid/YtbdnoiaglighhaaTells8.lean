/- The walk of dumbwaiterlaw8.BootTells (printed by gentells8.py). No statement is proved here. -/
import Derived.Test.YtbdnoiaglighhaaAwake8
import Derived.Test.YtbdnoiaglighhaaBootX
namespace Go.Proofs.Ytbdnoiaglighhaa
set_option linter.unusedVariables false
set_option linter.unusedSimpArgs false
set_option linter.constructorNameAsVariable false
open Go.RowKit Go.Maps

section
variable {P : Program} {ops : Array Oper} {C : World → Prop} {K : Act → World → Prop} {t : Tr} {i : Nat} {a : Act} {w w' : World} {o : Oper}
theorem wpTr_turnG {v : Value} (ho : ops[i]? = some o) (hw : Region.wanted o (yielded ops a.tmps) = true) (hrun : (execOp a.eval o).run P w = .ok (.value v) w') (hC : C w') (h : wpTr P ops C K t (a.put o.dst v) w') : wpTr P ops C K (.go i t) a w := by
  intro o' ho'
  obtain rfl : o' = o := Option.some.inj (ho'.symm.trans ho)
  exact .inl ⟨hw, .inl ⟨v, w', hrun, hC, h⟩⟩
theorem wpTr_callG {f : FuncId} {args : Array Value} {R : Ending → World → Prop} (ho : ops[i]? = some o) (hw : Region.wanted o (yielded ops a.tmps) = true) (hrun : (execOp a.eval o).run P w = .ok (.enter f args) w) (hc : Calls P f args w R)
    (h : ∀ e w', R e w' → ∃ v, e = .returned v ∧ C w' ∧ wpTr P ops C K t (a.put o.dst v) w') : wpTr P ops C K (.go i t) a w := by
  intro o' ho'
  obtain rfl : o' = o := Option.some.inj (ho'.symm.trans ho)
  exact .inl ⟨hw, .inr (.inr ⟨f, args, w, hrun, hc.mono fun e w' hr => h e w' hr⟩)⟩
end
theorem ParsedIs.both {b : List UInt8} {e : Ending} (h : ParsedIs b e) : e = .returned (.tuple #[.int .u32 (((parseB b).getD 0 : Nat) : Int), .bool (parseB b).isSome]) := by
  unfold ParsedIs at h
  cases hp : parseB b with
  | none => rw [hp] at h; exact h
  | some n => rw [hp] at h; exact h
theorem and15 (n : Int) : ∃ m : Nat, bits .and .i64 n 15 = (m : Int) ∧ m ≤ 15 := by
  have hm : (BitVec.ofInt 64 15).toNat = 2 ^ 4 - 1 := by decide
  have key : (BitVec.ofInt 64 n &&& BitVec.ofInt 64 15).toNat = (BitVec.ofInt 64 n).toNat % 2 ^ 4 := by
    rw [BitVec.toNat_and, hm, Nat.and_two_pow_sub_one_eq_mod]
  have h : bits .and .i64 n 15 = IntKind.i64.wrap ((BitVec.ofInt 64 n &&& BitVec.ofInt 64 15).toNat : Nat) := rfl
  rw [h, key, IntKind.wrap_i64]
  generalize (BitVec.ofInt 64 n).toNat = q
  exact ⟨q % 2 ^ 4, by omega, by omega⟩
theorem and65535 (n : Int) : ∃ m : Nat, bits .and .i64 n 65535 = (m : Int) ∧ m ≤ 65535 := by
  have hm : (BitVec.ofInt 64 65535).toNat = 2 ^ 16 - 1 := by decide
  have key : (BitVec.ofInt 64 n &&& BitVec.ofInt 64 65535).toNat = (BitVec.ofInt 64 n).toNat % 2 ^ 16 := by
    rw [BitVec.toNat_and, hm, Nat.and_two_pow_sub_one_eq_mod]
  have h : bits .and .i64 n 65535 = IntKind.i64.wrap ((BitVec.ofInt 64 n &&& BitVec.ofInt 64 65535).toNat : Nat) := rfl
  rw [h, key, IntKind.wrap_i64]
  generalize (BitVec.ofInt 64 n).toNat = q
  exact ⟨q % 2 ^ 16, by omega, by omega⟩
set_option maxHeartbeats 8000000 in
set_option maxRecDepth 100000 in
theorem tells8_calls (N : Nat) (hN : N < 4294967296) (l : List UInt8) (A : Option Addr) (n c : Nat) (hn : l.length = n) (hc : n ≤ c) (at_ : Int) (y : UInt8) (more : Int) (w : World) (hr : Rd w A (bs l)) :
    Calls Try.prog 10 #[.int .u32 (N : Int), .slice A n c, .int .i64 at_, .int .u8 (y.toNat : Int), .int .i64 more] w fun e w' => e = .returned (.bool true) ∧ Below w.heap.size w w' := by
  have HN := Lib.hid hn
  have HR := Lib.hid hr
  clear hn hr
  by_cases hbig : 1000 < n
  · have hbig' : (1000 : Int) < (n : Int) := by omega
    go_enter Try.func10, Try.ntmps10
    go_wp2_with fail
    refine (awake8_calls _).mono ?_
    rintro e w1 ⟨rfl, hb1⟩
    go_wp2_with fail
    go_ret
    exact ⟨rfl, hb1⟩
  have hbig' : ¬ (1000 : Int) < (n : Int) := by omega
  obtain ⟨mo, hmo, hmo15⟩ := and15 more
  obtain ⟨ad, had, had16⟩ := and65535 at_
  go_enter Try.func10, Try.ntmps10
  go_wp2_with fail
  go_loopw [1, 11] (fun r i wr => ∃ k : Nat, k ≤ 3 ∧ i = .int .i64 (k : Int) ∧ (∃ (rl : List UInt8) (A' : Option Addr) (m' d' : Nat), r = .slice A' m' d' ∧ rl.length = m' ∧ m' ≤ d' ∧ m' ≤ 60000 ∧ Rd wr A' (bs rl)) ∧ Below w.heap.size w wr) (fun _ i _ => 3 - (intOf i).toNat)
  case atStart => exact ⟨0, by omega, rfl, ⟨l, A, n, c, rfl, HN.out, hc, by omega, HR.out⟩, .refl _ _⟩
  case round =>
    obtain ⟨k, hk, rfl, ⟨rl, A', m', d', rfl, hrl, hmd, hm60, hrd⟩, hb⟩ := hrel
    have HRL := Lib.hid hrl
    have HRD := Lib.hid hrd
    have HB := Lib.hid hb
    clear hrl hrd hb
    by_cases hk3 : k < 3
    rotate_left
    · obtain rfl : k = 3 := by omega
      have hk3' : ¬ ((3 : Nat) : Int) < 3 := by omega
      go_wp2_with fail
      refine (awake8_calls _).mono ?_
      rintro e w1 ⟨rfl, hb1⟩
      have HE := Lib.hid (HB.out.trans (hb1.mono HB.out.size))
      clear hb1
      go_wp2_with fail
      go_ret
      exact ⟨rfl, HE.out⟩
    have hk3' : (k : Int) < 3 := by omega
    obtain ⟨wo, rfl⟩ : ∃ wo : World, wo = wr := ⟨_, rfl⟩
    go_wp2_with fail
    refine (parse_calls A' m' d' rl wo HRL.out hmd hm60 HRD.out).mono ?_
    rintro e w1 ⟨hp, hb1⟩
    obtain rfl := hp.both
    have HB1 := Lib.hid (HB.out.trans (hb1.mono HB.out.size))
    have RD1 := Lib.hid (HRD.out.below hb1)
    obtain ⟨pn, hpn⟩ : ∃ pn : Nat, pn = (parseB rl).getD 0 := ⟨_, rfl⟩
    obtain ⟨pk, hpk⟩ : ∃ pk : Bool, pk = (parseB rl).isSome := ⟨_, rfl⟩
    rw [← hpn, ← hpk]
    have HPN := Lib.hid (And.intro hpn hpk)
    clear hp hb1 hpn hpk
    go_wp2_with fail
    refine (rparse_calls A' m' d' rl w1 HRL.out hmd hm60 RD1.out).mono ?_
    rintro e w2 ⟨hp, hb2⟩
    have he := hp.both
    rw [← HPN.out.1, ← HPN.out.2] at he
    subst he
    have HB2 := Lib.hid (HB1.out.trans (hb2.mono HB1.out.size))
    clear hp hb2
    go_wp2_with fail
    try simp only [Act.put]
    obtain ⟨wr, rfl⟩ : ∃ wr : World, wr = w2 := ⟨_, rfl⟩
    refine wp_region_mixT [(true, 0), (true, 1), (true, 2), (true, 3), (true, 4), (true, 5), (true, 6), (true, 7), (true, 8), (false, 9), (false, 12)] [10, 11, 13, 14] [15, 16] (.fork (.go 10 (.fork (.go 11 (.go 13 (.go 14 .stop))) (.go 13 (.fork (.go 11 (.go 14 .stop)) (.go 14 (.go 11 .stop)))))) (.go 13 (.fork (.go 14 (.go 10 (.go 11 .stop))) (.go 10 (.fork (.go 14 (.go 11 .stop)) (.go 11 (.go 14 .stop))))))) (by kernel_rfl) (by kernel_rfl)
      (fun w' => Below wr.heap.size wr w') (fun f w' => f 11 = .string ⟨(recB N).toArray⟩ ∧ f 14 = .string ⟨(recB N).toArray⟩) (Below.refl _ _).drew ?_
    iterate 9
      refine wpHead_early rfl (fun K hK => ?_)
      go_simp
      refine hK _ ?_
      clear hK K
    iterate 2
      refine wpHead_late rfl (fun K hK => ⟨.int .u32 (N : Int), fun w' hC => ⟨rfl, rfl⟩, hK _ ?_⟩)
      clear hK K
      simp only [Act.put, List.getElem_toArray, List.getElem_cons_succ, List.getElem_cons_zero, List.setIfInBounds_toArray, List.set_cons_zero, List.set_cons_succ]
    unfold wpHead wpMeet
    refine ⟨?_, ?_⟩
    · skip
      have b0 : Below wr.heap.size wr wr.drew := (Below.refl _ _).drew
      refine ⟨?_, ?_⟩
      · skip
        refine wpTr_callG (f := 49) rfl rfl (by exact exec_enter (xl := [.tmp 43]) rfl rfl Try.func49 rfl rfl _) (rec_at N _ rfl hN wr.drew) ?_
        rintro e wa ⟨Aa, ca, rfl, ha, hba⟩
        have b1 := b0.trans (hba.mono b0.size)
        have ra : Rd wa Aa (bs (recB N)) := .of_own ha
        refine ⟨_, rfl, b1, ?_⟩
        simp only [Act.put, List.getElem_toArray, List.getElem_cons_succ, List.getElem_cons_zero, List.setIfInBounds_toArray, List.set_cons_zero, List.set_cons_succ]
        refine ⟨?_, ?_⟩
        · skip
          have sa : (convert 41 9 (.slice Aa 24 ca)).run Try.prog wa = .ok (.string ⟨(recB N).toArray⟩) wa := by
            have h := run_bytes_string (P := Try.prog) (l := recB N) Try.underlying41 Try.underlying5 Try.underlying9 ra ca
            rwa [recB_length] at h
          refine wpTr_turnG (v := .string ⟨(recB N).toArray⟩) (w' := wa) rfl rfl (by first | (go_simp; done) | (go_simp; rw [sa]; rfl)) b1 ?_
          simp only [Act.put, List.getElem_toArray, List.getElem_cons_succ, List.getElem_cons_zero, List.setIfInBounds_toArray, List.set_cons_zero, List.set_cons_succ]
          refine wpTr_callG (f := 40) rfl rfl (by exact exec_enter (xl := [.tmp 46]) rfl rfl Try.func40 rfl rfl _) (rrec_at N _ rfl hN wa) ?_
          rintro e wb ⟨vb, rfl, hb, hbb⟩
          obtain ⟨Ab, cb, rfl⟩ := own_slice hb
          have b3 := b1.trans (hbb.mono b1.size)
          replace ra := ra.below hbb
          have rb : Rd wb Ab (bs (recB N)) := .of_own hb
          refine ⟨_, rfl, b3, ?_⟩
          simp only [Act.put, List.getElem_toArray, List.getElem_cons_succ, List.getElem_cons_zero, List.setIfInBounds_toArray, List.set_cons_zero, List.set_cons_succ]
          have sb : (convert 41 9 (.slice Ab 24 cb)).run Try.prog wb = .ok (.string ⟨(recB N).toArray⟩) wb := by
            have h := run_bytes_string (P := Try.prog) (l := recB N) Try.underlying41 Try.underlying5 Try.underlying9 rb cb
            rwa [recB_length] at h
          refine wpTr_turnG (v := .string ⟨(recB N).toArray⟩) (w' := wb) rfl rfl (by first | (go_simp; done) | (go_simp; rw [sb]; rfl)) b3 ?_
          simp only [Act.put, List.getElem_toArray, List.getElem_cons_succ, List.getElem_cons_zero, List.setIfInBounds_toArray, List.set_cons_zero, List.set_cons_succ]
          unfold wpTr
          exact ⟨b3, (fun | 10 => .slice Aa 24 ca | 11 => .string ⟨(recB N).toArray⟩ | 13 => .slice Ab 24 cb | 14 => .string ⟨(recB N).toArray⟩ | _ => undef), rfl, rfl, rfl⟩
        · skip
          refine wpTr_callG (f := 40) rfl rfl (by exact exec_enter (xl := [.tmp 46]) rfl rfl Try.func40 rfl rfl _) (rrec_at N _ rfl hN wa) ?_
          rintro e wb ⟨vb, rfl, hb, hbb⟩
          obtain ⟨Ab, cb, rfl⟩ := own_slice hb
          have b2 := b1.trans (hbb.mono b1.size)
          replace ra := ra.below hbb
          have rb : Rd wb Ab (bs (recB N)) := .of_own hb
          refine ⟨_, rfl, b2, ?_⟩
          simp only [Act.put, List.getElem_toArray, List.getElem_cons_succ, List.getElem_cons_zero, List.setIfInBounds_toArray, List.set_cons_zero, List.set_cons_succ]
          refine ⟨?_, ?_⟩
          · skip
            have sa : (convert 41 9 (.slice Aa 24 ca)).run Try.prog wb = .ok (.string ⟨(recB N).toArray⟩) wb := by
              have h := run_bytes_string (P := Try.prog) (l := recB N) Try.underlying41 Try.underlying5 Try.underlying9 ra ca
              rwa [recB_length] at h
            refine wpTr_turnG (v := .string ⟨(recB N).toArray⟩) (w' := wb) rfl rfl (by first | (go_simp; done) | (go_simp; rw [sa]; rfl)) b2 ?_
            simp only [Act.put, List.getElem_toArray, List.getElem_cons_succ, List.getElem_cons_zero, List.setIfInBounds_toArray, List.set_cons_zero, List.set_cons_succ]
            have sb : (convert 41 9 (.slice Ab 24 cb)).run Try.prog wb = .ok (.string ⟨(recB N).toArray⟩) wb := by
              have h := run_bytes_string (P := Try.prog) (l := recB N) Try.underlying41 Try.underlying5 Try.underlying9 rb cb
              rwa [recB_length] at h
            refine wpTr_turnG (v := .string ⟨(recB N).toArray⟩) (w' := wb) rfl rfl (by first | (go_simp; done) | (go_simp; rw [sb]; rfl)) b2 ?_
            simp only [Act.put, List.getElem_toArray, List.getElem_cons_succ, List.getElem_cons_zero, List.setIfInBounds_toArray, List.set_cons_zero, List.set_cons_succ]
            unfold wpTr
            exact ⟨b2, (fun | 10 => .slice Aa 24 ca | 11 => .string ⟨(recB N).toArray⟩ | 13 => .slice Ab 24 cb | 14 => .string ⟨(recB N).toArray⟩ | _ => undef), rfl, rfl, rfl⟩
          · skip
            have sb : (convert 41 9 (.slice Ab 24 cb)).run Try.prog wb = .ok (.string ⟨(recB N).toArray⟩) wb := by
              have h := run_bytes_string (P := Try.prog) (l := recB N) Try.underlying41 Try.underlying5 Try.underlying9 rb cb
              rwa [recB_length] at h
            refine wpTr_turnG (v := .string ⟨(recB N).toArray⟩) (w' := wb) rfl rfl (by first | (go_simp; done) | (go_simp; rw [sb]; rfl)) b2 ?_
            simp only [Act.put, List.getElem_toArray, List.getElem_cons_succ, List.getElem_cons_zero, List.setIfInBounds_toArray, List.set_cons_zero, List.set_cons_succ]
            have sa : (convert 41 9 (.slice Aa 24 ca)).run Try.prog wb = .ok (.string ⟨(recB N).toArray⟩) wb := by
              have h := run_bytes_string (P := Try.prog) (l := recB N) Try.underlying41 Try.underlying5 Try.underlying9 ra ca
              rwa [recB_length] at h
            refine wpTr_turnG (v := .string ⟨(recB N).toArray⟩) (w' := wb) rfl rfl (by first | (go_simp; done) | (go_simp; rw [sa]; rfl)) b2 ?_
            simp only [Act.put, List.getElem_toArray, List.getElem_cons_succ, List.getElem_cons_zero, List.setIfInBounds_toArray, List.set_cons_zero, List.set_cons_succ]
            unfold wpTr
            exact ⟨b2, (fun | 10 => .slice Aa 24 ca | 11 => .string ⟨(recB N).toArray⟩ | 13 => .slice Ab 24 cb | 14 => .string ⟨(recB N).toArray⟩ | _ => undef), rfl, rfl, rfl⟩
      · skip
        refine wpTr_callG (f := 40) rfl rfl (by exact exec_enter (xl := [.tmp 46]) rfl rfl Try.func40 rfl rfl _) (rrec_at N _ rfl hN wr.drew) ?_
        rintro e wb ⟨vb, rfl, hb, hbb⟩
        obtain ⟨Ab, cb, rfl⟩ := own_slice hb
        have b1 := b0.trans (hbb.mono b0.size)
        have rb : Rd wb Ab (bs (recB N)) := .of_own hb
        refine ⟨_, rfl, b1, ?_⟩
        simp only [Act.put, List.getElem_toArray, List.getElem_cons_succ, List.getElem_cons_zero, List.setIfInBounds_toArray, List.set_cons_zero, List.set_cons_succ]
        refine ⟨?_, ?_⟩
        · skip
          have sb : (convert 41 9 (.slice Ab 24 cb)).run Try.prog wb = .ok (.string ⟨(recB N).toArray⟩) wb := by
            have h := run_bytes_string (P := Try.prog) (l := recB N) Try.underlying41 Try.underlying5 Try.underlying9 rb cb
            rwa [recB_length] at h
          refine wpTr_turnG (v := .string ⟨(recB N).toArray⟩) (w' := wb) rfl rfl (by first | (go_simp; done) | (go_simp; rw [sb]; rfl)) b1 ?_
          simp only [Act.put, List.getElem_toArray, List.getElem_cons_succ, List.getElem_cons_zero, List.setIfInBounds_toArray, List.set_cons_zero, List.set_cons_succ]
          refine wpTr_callG (f := 49) rfl rfl (by exact exec_enter (xl := [.tmp 43]) rfl rfl Try.func49 rfl rfl _) (rec_at N _ rfl hN wb) ?_
          rintro e wa ⟨Aa, ca, rfl, ha, hba⟩
          have b3 := b1.trans (hba.mono b1.size)
          replace rb := rb.below hba
          have ra : Rd wa Aa (bs (recB N)) := .of_own ha
          refine ⟨_, rfl, b3, ?_⟩
          simp only [Act.put, List.getElem_toArray, List.getElem_cons_succ, List.getElem_cons_zero, List.setIfInBounds_toArray, List.set_cons_zero, List.set_cons_succ]
          have sa : (convert 41 9 (.slice Aa 24 ca)).run Try.prog wa = .ok (.string ⟨(recB N).toArray⟩) wa := by
            have h := run_bytes_string (P := Try.prog) (l := recB N) Try.underlying41 Try.underlying5 Try.underlying9 ra ca
            rwa [recB_length] at h
          refine wpTr_turnG (v := .string ⟨(recB N).toArray⟩) (w' := wa) rfl rfl (by first | (go_simp; done) | (go_simp; rw [sa]; rfl)) b3 ?_
          simp only [Act.put, List.getElem_toArray, List.getElem_cons_succ, List.getElem_cons_zero, List.setIfInBounds_toArray, List.set_cons_zero, List.set_cons_succ]
          unfold wpTr
          exact ⟨b3, (fun | 10 => .slice Aa 24 ca | 11 => .string ⟨(recB N).toArray⟩ | 13 => .slice Ab 24 cb | 14 => .string ⟨(recB N).toArray⟩ | _ => undef), rfl, rfl, rfl⟩
        · skip
          refine wpTr_callG (f := 49) rfl rfl (by exact exec_enter (xl := [.tmp 43]) rfl rfl Try.func49 rfl rfl _) (rec_at N _ rfl hN wb) ?_
          rintro e wa ⟨Aa, ca, rfl, ha, hba⟩
          have b2 := b1.trans (hba.mono b1.size)
          replace rb := rb.below hba
          have ra : Rd wa Aa (bs (recB N)) := .of_own ha
          refine ⟨_, rfl, b2, ?_⟩
          simp only [Act.put, List.getElem_toArray, List.getElem_cons_succ, List.getElem_cons_zero, List.setIfInBounds_toArray, List.set_cons_zero, List.set_cons_succ]
          refine ⟨?_, ?_⟩
          · skip
            have sb : (convert 41 9 (.slice Ab 24 cb)).run Try.prog wa = .ok (.string ⟨(recB N).toArray⟩) wa := by
              have h := run_bytes_string (P := Try.prog) (l := recB N) Try.underlying41 Try.underlying5 Try.underlying9 rb cb
              rwa [recB_length] at h
            refine wpTr_turnG (v := .string ⟨(recB N).toArray⟩) (w' := wa) rfl rfl (by first | (go_simp; done) | (go_simp; rw [sb]; rfl)) b2 ?_
            simp only [Act.put, List.getElem_toArray, List.getElem_cons_succ, List.getElem_cons_zero, List.setIfInBounds_toArray, List.set_cons_zero, List.set_cons_succ]
            have sa : (convert 41 9 (.slice Aa 24 ca)).run Try.prog wa = .ok (.string ⟨(recB N).toArray⟩) wa := by
              have h := run_bytes_string (P := Try.prog) (l := recB N) Try.underlying41 Try.underlying5 Try.underlying9 ra ca
              rwa [recB_length] at h
            refine wpTr_turnG (v := .string ⟨(recB N).toArray⟩) (w' := wa) rfl rfl (by first | (go_simp; done) | (go_simp; rw [sa]; rfl)) b2 ?_
            simp only [Act.put, List.getElem_toArray, List.getElem_cons_succ, List.getElem_cons_zero, List.setIfInBounds_toArray, List.set_cons_zero, List.set_cons_succ]
            unfold wpTr
            exact ⟨b2, (fun | 10 => .slice Aa 24 ca | 11 => .string ⟨(recB N).toArray⟩ | 13 => .slice Ab 24 cb | 14 => .string ⟨(recB N).toArray⟩ | _ => undef), rfl, rfl, rfl⟩
          · skip
            have sa : (convert 41 9 (.slice Aa 24 ca)).run Try.prog wa = .ok (.string ⟨(recB N).toArray⟩) wa := by
              have h := run_bytes_string (P := Try.prog) (l := recB N) Try.underlying41 Try.underlying5 Try.underlying9 ra ca
              rwa [recB_length] at h
            refine wpTr_turnG (v := .string ⟨(recB N).toArray⟩) (w' := wa) rfl rfl (by first | (go_simp; done) | (go_simp; rw [sa]; rfl)) b2 ?_
            simp only [Act.put, List.getElem_toArray, List.getElem_cons_succ, List.getElem_cons_zero, List.setIfInBounds_toArray, List.set_cons_zero, List.set_cons_succ]
            have sb : (convert 41 9 (.slice Ab 24 cb)).run Try.prog wa = .ok (.string ⟨(recB N).toArray⟩) wa := by
              have h := run_bytes_string (P := Try.prog) (l := recB N) Try.underlying41 Try.underlying5 Try.underlying9 rb cb
              rwa [recB_length] at h
            refine wpTr_turnG (v := .string ⟨(recB N).toArray⟩) (w' := wa) rfl rfl (by first | (go_simp; done) | (go_simp; rw [sb]; rfl)) b2 ?_
            simp only [Act.put, List.getElem_toArray, List.getElem_cons_succ, List.getElem_cons_zero, List.setIfInBounds_toArray, List.set_cons_zero, List.set_cons_succ]
            unfold wpTr
            exact ⟨b2, (fun | 10 => .slice Aa 24 ca | 11 => .string ⟨(recB N).toArray⟩ | 13 => .slice Ab 24 cb | 14 => .string ⟨(recB N).toArray⟩ | _ => undef), rfl, rfl, rfl⟩
    intro f w3 hb3 hR
    obtain ⟨e11, e14⟩ := hR
    have HB3 := Lib.hid (HB2.out.trans (hb3.mono HB2.out.size))
    clear hb3
    unfold wpRest
    simp only [puts, Act.put, List.map_nil, List.map_cons, List.getElem?_toArray, List.getElem?_cons_succ, List.getElem?_cons_zero, List.setIfInBounds_toArray, List.set_cons_zero, List.set_cons_succ, e11, e14]
    clear e11 e14
    iterate 2
      refine wpHead_early rfl (fun K hK => ?_)
      go_simp
      refine hK _ ?_
      clear hK K
    unfold wpHead
    go_wp2_with fail
    refine (rrec_at N _ rfl hN w3).mono ?_
    rintro e w4 ⟨v4, rfl, hown4, hb4⟩
    have HB4 := Lib.hid (HB3.out.trans (hb4.mono HB3.out.size))
    have HO4 := Lib.hid (Joins.ownsRow_le (base' := w.heap.size) hown4 HB3.out.size)
    have hs4 := HB4.out.size
    have HD9 := Lib.hid (And.intro had had16)
    clear had had16
    clear hown4 hb4
    obtain ⟨A4, c4, rfl⟩ := own_slice HO4.out
    by_cases hk1 : k = 1
    rotate_left
    · have hk1' : ¬ (k : Int) = 1 := by omega
      go_wp2_with (first
        | (at_builtin; refine wpList_appZeros (v := .slice A4 24 c4) S41 Try.underlying3 rfl (.tmp 52) (.tmp 54) rfl rfl rfl (m := mo) (by omega) HO4.out (by rw [zeros_bs]; exact bs_one _) (by decide) (by omega) hs4 ?_; intro v5 w5 hown5 hg5 hl5))
      obtain ⟨A5, c5, rfl⟩ := own_slice hown5
      have hb5 := below_grown HB4.out HO4.out hg5 hs4
      have hown6 : w5.ownsRow w.heap.size 5 1 (.slice A5 (24 + mo) c5) (24 + mo) (bs (recB N ++ List.replicate mo 0)) := by rw [bs_append, ← zeros_bs]; exact hown5
      go_roundw
      case rel => exact ⟨k + 1, by omega, by go_num, ⟨recB N ++ List.replicate mo 0, A5, 24 + mo, c5, rfl, by simp [recB_length], (own_at hown6 (by omega)).choose_spec.2.1, by omega, .of_own hown6⟩, hb5⟩
      case measure => simp [intOf]; omega
    · subst hk1
      go_wp2_with (first
        | (at_builtin
           refine wpList_appZeros (v := .slice A4 24 c4) S41 Try.underlying3 rfl (.tmp 52) (.tmp 54) rfl rfl rfl (m := mo) (by omega) HO4.out (by rw [zeros_bs]; exact bs_one _) (by decide) (by omega) hs4 ?_
           intro v5 w5 hown5 hg5 hl5
           obtain ⟨A5, c5, rfl⟩ := own_slice hown5
           have hb5 := below_grown HB4.out HO4.out hg5 hs4
           have hown6 : w5.ownsRow w.heap.size 5 1 (.slice A5 (24 + mo) c5) (24 + mo) (bs (recB N ++ List.replicate mo 0)) := by rw [bs_append, ← zeros_bs]; exact hown5
           obtain ⟨g5, rfl, hc5, hg50, hg51⟩ := own_at hown6 (by omega)
           obtain ⟨j, hj⟩ : ∃ j, j = ad % (24 + mo) := ⟨_, rfl⟩
           have hjl : j < 24 + mo := by rw [hj]; exact Nat.mod_lt _ (by omega)
           have e1 : (ad : Int) % ((24 : Int) + (mo : Int)) = (j : Int) := by rw [hj]; simp
           have e2 : (ad : Int).tmod ((24 : Int) + (mo : Int)) = (j : Int) := by rw [Int.tmod_eq_emod_of_nonneg (by omega)]; exact e1
           have hjl' : (j : Int) < (24 : Int) + (mo : Int) := by omega
           have hpos : ¬ ((24 : Int) + (mo : Int)) = 0 := by omega
           have had := HD9.out.1
           obtain ⟨L5, hL5⟩ : ∃ L5, L5 = recB N ++ List.replicate mo 0 := ⟨_, rfl⟩
           rw [← hL5] at hown6
           have hll5 : L5.length = 24 + mo := by rw [hL5]; simp [recB_length]
           obtain ⟨cs5, hcs5, hcl5, hget5, hset5⟩ := own_put hown6 hjl
           obtain ⟨z, hz⟩ : ∃ z, z = L5[j] := ⟨_, rfl⟩
           have p0 := hcs5.cellAt (i := j) (v := .int .u8 (z.toNat : Int)) ((hget5 j hjl).trans (by rw [List.getElem?_map, List.getElem?_eq_getElem (by omega), hz]; rfl))
           have hxy := xor8 z y
           have HSET := Lib.hid hset5
           have HCS := Lib.hid hcs5
           have HLL := Lib.hid hll5
           have HB5 := Lib.hid hb5
           clear hset5 hcs5 hget5 hll5 hL5 hz hj hown6 hown5 hg5 hl5 hb5)
        | (refine wpList_put rfl 5 (.tmp 68) (.tmp 67) rfl rfl rfl HCS.out (vs := [byt (z ^^^ y)]) rfl info5 (by simp; omega) (by simp [byt, Value.oneCell']) ?_
           intro w6 hP6 hg6
           have O6 := Lib.hid (HSET.out _ _ hP6)
           have G6 := Lib.hid hg6
           clear hP6 hg6))
      go_roundw
      case rel => exact ⟨1 + 1, by omega, by go_num, ⟨L5.set j (z ^^^ y), some ⟨g5, 0, none⟩, 24 + mo, c5, rfl, by rw [List.length_set, HLL.out], hc5, by omega, .of_own (by rw [show bs (L5.set j (z ^^^ y)) = (bs L5).set j (byt (z ^^^ y)) from List.map_set]; exact O6.out)⟩, HB5.out.grown G6.out HB5.out.size (fun q hq => by cases hq; exact hg50)⟩
      case measure => simp [intOf]
end Go.Proofs.Ytbdnoiaglighhaa
