/- The walk of package disk's Flush. No statement is proved here. -/
import Derived.Test.YtbdnoiaglighhaaDevF
namespace Go.Proofs.Ytbdnoiaglighhaa
set_option linter.unusedVariables false
set_option linter.unusedSimpArgs false
open Go.RowKit Go.Maps

theorem flat_at {size : Nat} : ∀ (cs : List (List Value)) (k : Nat), (∀ c ∈ cs, c.length = size) → k < cs.length → (cs.flatten.drop (k * size)).take size = cs.getD k []
  | [], k, _, hk => absurd hk (by simp)
  | c :: cs, 0, h, _ => by
    have hc := h c List.mem_cons_self
    rw [Nat.zero_mul, List.drop_zero, List.flatten_cons, List.take_left' hc]
    rfl
  | c :: cs, k + 1, h, hk => by
    have hc := h c List.mem_cons_self
    have := flat_at cs k (fun d hd => h d (List.mem_cons_of_mem _ hd)) (by simpa using hk)
    rw [Nat.add_mul, Nat.one_mul, Nat.add_comm, ← List.drop_drop, List.flatten_cons, List.drop_left' hc, this]
    rfl
section
variable {w w' w2 : World} {F F' F2 : Nat → Prop} {db : Nat} {S S' S2 : Dev}
/-- A record of a row. -/
theorem rec_rd {e size n : Nat} {v : Value} {cs : List (List Value)} (h : w.ownsRow 0 e size v n cs.flatten) (hs : ∀ c ∈ cs, c.length = size) (h0 : 0 < size) {k : Nat} (hk : k < cs.length) (hn : cs.length = n) :
    ∃ g cap, v = .slice (some ⟨g, 0, none⟩) n cap ∧ Rd w (some ⟨g, k * size, none⟩) (cs.getD k []) := by
  rcases h.2 with ⟨_, h0⟩ | ⟨g, cap, cur, rfl, _, hh, hnc, _, hcs, htake⟩
  · omega
  · refine ⟨g, cap, rfl, fun _ => ⟨g, k * size, rfl, cur, e, (0, 0), hh, fun i hi => ?_⟩⟩
    have hfl := flat_at cs k hs hk
    have hlen : (cs.getD k []).length = size := hs _ (by rw [List.getD_eq_getElem?_getD, List.getElem?_eq_getElem hk]; exact List.getElem_mem _)
    rw [hlen] at hi
    rw [← hfl, List.getElem?_take_of_lt hi, List.getElem?_drop, ← htake, List.getElem?_take_of_lt (by
      have : (k + 1) * size ≤ n * size := Nat.mul_le_mul_right _ (by omega)
      rw [Nat.add_mul, Nat.one_mul] at this
      omega)]
    simp
theorem lw_len {blocks size : Nat} : ∀ {xs : List (Int × List UInt8)} {cs : List (List Value)}, All2 (LwIs w F blocks size) xs cs → ∀ c ∈ cs, c.length = 2
  | [], [], _, c, hc => by cases hc
  | _ :: xs, d :: cs, h, c, hc => by
    rcases List.mem_cons.1 hc with rfl | hc
    · obtain ⟨_, _, _, v, rfl, _⟩ := h.1; rfl
    · exact lw_len h.2 c hc
  | [], _ :: _, h, _, _ => h.elim
  | _ :: _, [], h, _, _ => h.elim
theorem info105 : (Try.prog.info? 105).map (·.size) = some 2 := by kernel_rfl
/-- A load of an array or a struct out of what a slice reads. -/
theorem wpList_getRd' {P : Program} {ops : Array Oper} {rest : List Oper} {o : Oper} {a : Act} {Q : Exit → Act → World → Prop} (hgd : o.guard = none) (ty : TypeId) (x : Operand) (ho : o.op = .load ty x)
    {A : Option Addr} {cs : List Value} {d : TypeDesc} (hx : a.eval x = .pointer A) (hr : Rd w A cs) (h0 : 0 < cs.length) (hu : P.underlying ty = some d) (hd : (match d with | .struct _ | .array _ _ => true | _ => false) = true) (hi : (P.info? ty).map (·.size) = some cs.length)
    (h : wpList P ops Q rest (a.put o.dst (.agg cs.toArray)) w) : wpList P ops Q (o :: rest) a w := by
  obtain ⟨b, q, hA, _⟩ := hr.cell (k := 0) h0
  subst hA
  refine wpList_plain hgd fun K hK => ?_
  have hl := run_loadCells_list (P := P) w ⟨b, q, none⟩ cs (fun j v hj => hr.cells _ rfl j v hj)
  unfold Oper.wp execOp
  cases hq : P.info? ty with
  | none => simp [hq] at hi
  | some i =>
    have hs : i.size = cs.length := by simp [hq] at hi; omega
    cases d <;> simp at hd <;> simp [ho, hx, Instr.loadAt, Instr.sureAddr, loadVar, isAgg, run_underlying hu, sizeOf, typeInfo, hq, hs, hl, Sem.run] <;> exact hK _ _ h
theorem over_take (f : Int → Option (List UInt8)) (l : List (Int × List UInt8)) (k : Nat) (h : k < l.length) : Dev.over f (l.take (k + 1)) = upd (Dev.over f (l.take k)) l[k].1 l[k].2 := by
  unfold Dev.over
  rw [List.take_add_one, List.getElem?_eq_getElem h, List.foldl_append]
  rfl
/-- What stands on F, and more. -/
theorem Parts.alloc {mS mN : Nat} {vL vT : Value} (hp : Parts w F S mS mN vL vT) (hl : Lies F w) (o : Obj) : Parts (w.alloc o) F S mS mN vL vT := hp.same hl (.alloc hl o)
theorem Same.drew (F : Nat → Prop) (w : World) : Same F w w.drew := ⟨Nat.le_refl _, fun _ _ => rfl⟩
set_option maxHeartbeats 1000000 in
set_option maxRecDepth 100000 in
theorem flush_calls (h : DiskAt w db S F) (hl : S.live) (htr : S.trace.length ≤ 1000000) (hlo : S.loose.length ≤ 1000000) :
    Calls Try.prog 28 #[.pointer (some ⟨db, 0, none⟩)] w fun e w' => e = .returned (.tuple #[]) ∧ ∃ F', Calls1 db S.flush F w w' F' := by
  have HD := Lib.hid h
  clear h
  go_enter Try.func28, Try.ntmps28
  go_wp2_with fail
  refine (count_calls HD.out hl).mono ?_
  rintro e w1 ⟨rfl, hC⟩
  have HC := Lib.hid hC
  clear hC
  go_wp2_with fail
  refine (note_calls HC.out.disk 3 0 none 0 0 [] rfl (Nat.le_refl _) (.nil _ _) none (.slice none 0 0) rfl htr).mono ?_
  rintro e w2 ⟨rfl, F1, hN⟩
  have HN := Lib.hid (HC.out.trans hN)
  obtain ⟨hlies, ho, hk, mS, mN, vL, vT, hb, hp⟩ := hN.disk
  obtain ⟨T, hT⟩ : ∃ T, T = S.tick.note 3 0 [] none := ⟨_, rfl⟩
  rw [← hT] at HN hk hb hp
  have hTl : T.loose = S.loose := by rw [hT]; rfl
  have HT := Lib.hid hT
  have HTL := Lib.hid hTl
  clear hN hT
  have c4 := hb.dev.2.2.2.2.1
  obtain ⟨⟨cs0, hall0, hoL⟩, hLF⟩ := hp.loose
  obtain ⟨AL, cL, hvL⟩ := own_slice hoL
  subst hvL
  obtain ⟨n, hn⟩ : ∃ n, n = T.loose.length := ⟨_, rfl⟩
  rw [← hn] at c4
  have hn6 : n ≤ 1000000 := by rw [hn, hTl]; exact hlo
  have HNN := Lib.hid hn
  have HB := Lib.hid hb
  have HP := Lib.hid hp
  clear hoL hall0 hb hp hn hTl
  go_wp2_with fail
  go_loopw [13] (fun i wr => ∃ k : Nat, k ≤ n ∧ i = .int .i64 (k : Int) ∧ Blk wr db 102 (devCells T mS mN (.slice AL T.loose.length cL) vT) ∧ Parts wr F1 { T with stable := Dev.over T.stable (T.loose.take k) } mS mN (.slice AL T.loose.length cL) vT ∧ But F1 w2 wr) (fun i _ => n - (intOf i).toNat)
  case atStart => exact ⟨0, by omega, rfl, HB.out, HP.out, .refl _ _⟩
  case round =>
    obtain ⟨k, hk2, rfl, hbr, hpr, hbut⟩ := hrel
    have hlr : Lies F1 wr := hlies.mono hbut.size
    by_cases hlt : k < n
    · have hlt' : (k : Int) < (n : Int) := by omega
      have hk0 : (0 : Int) ≤ (k : Int) := by omega
      obtain ⟨⟨cs, hall, hoL⟩, _⟩ := hpr.loose
      have hkl : k < T.loose.length := by rw [← HNN.out]; exact hlt
      obtain ⟨g, cap, hv, hrd⟩ := rec_rd hoL (lw_len hall) (by decide) (k := k) (by rw [← hall.len]; exact hkl) hall.len.symm
      obtain ⟨c, hc, hx0, hx1, hlen, v, hcv, hdat⟩ := hall.get k hkl
      injection hv with hA _ hcap
      subst hA hcap
      rw [List.getD_eq_getElem?_getD, hc] at hrd
      simp only [Option.getD_some] at hrd
      obtain ⟨gv, cv, rfl, hd1, hd2⟩ := hdat
      have hdat : Dat wr F1 _ _ := ⟨gv, cv, rfl, hd1, hd2⟩
      clear hd1 hd2
      obtain ⟨p, hp⟩ : ∃ p, p = T.loose[k] := ⟨_, rfl⟩
      have hov := over_take T.stable T.loose k hkl
      rw [← hp] at hdat hcv hlen hx0 hx1 hov
      obtain ⟨x, l⟩ := p
      simp only at hdat hcv hlen hx0 hx1 hov
      have HOV := Lib.hid hov
      have HLEN := Lib.hid hlen
      clear hp hov hlen
      subst hcv
      have HRD := Lib.hid hrd
      have HBR := Lib.hid hbr
      have HPR := Lib.hid hpr
      have HBUT := Lib.hid hbut
      have HDAT := Lib.hid hdat
      clear hrd hbr hpr hbut hdat hall hoL hc c4
      go_wp2_with (first
        | (refine wpList_getRd' rfl 105 (.tmp 15) rfl rfl HRD.out (by simp) Try.underlying105 rfl info105 ?_))
      have hpa := HPR.out.same hlr ((Same.alloc hlr (.cells #[.int .i64 x, .slice (some ⟨gv, 0, none⟩) l.length cv] 105)).trans (.drew F1 _))
      have hda := HDAT.out.same ((Same.alloc hlr (.cells #[.int .i64 x, .slice (some ⟨gv, 0, none⟩) l.length cv] 105)).trans (.drew F1 _))
      obtain ⟨w5, hrun, hp5, hg5, n5, n102, n105⟩ := Parts.storeStable (w := (wr.alloc (.cells #[.int .i64 x, .slice (some ⟨gv, 0, none⟩) l.length cv] 105)).drew) (S := { T with stable := Dev.over T.stable (T.loose.take k) }) (hlr.mono (by show wr.heap.size ≤ (wr.alloc (.cells #[.int .i64 x, .slice (some ⟨gv, 0, none⟩) l.length cv] 105)).heap.size; simp)) ⟨hk.blocks, hk.size, hk.pos, hk.after⟩ hpa (x := x) ⟨hx0, hx1⟩ hda HLEN.out
      have hnedb : some db ≠ some mS := fun e => n102 _ (by have := Option.some.inj e; subst this; exact HBR.out.alloc _)
      have HB5 := Lib.hid (show Blk w5 db 102 _ from (hg5.block db (HBR.out.alloc _).lt hnedb).trans (HBR.out.alloc (.cells #[.int .i64 x, .slice (some ⟨gv, 0, none⟩) l.length cv] 105)))
      have HG5 := Lib.hid hg5
      have hmF : F1 mS := hpa.stable.1
      rw [show upd ({ T with stable := Dev.over T.stable (T.loose.take k) } : Dev).stable x l = Dev.over T.stable (T.loose.take (k + 1)) from HOV.out.symm] at hp5
      have HP5 := Lib.hid (show Parts w5 F1 { T with stable := Dev.over T.stable (T.loose.take (k + 1)) } mS mN _ vT from hp5)
      have c2 := (HBR.out.alloc (.cells #[.int .i64 x, .slice (some ⟨gv, 0, none⟩) l.length cv] 105)).dev.2.2.1
      have c2' := HBR.out.dev.2.2.1
      have hdbr := HBR.out.lt
      clear hpa hda hp5 hg5 n5 n102 n105
      try simp only [Act.put]
      refine wp_region_mix [(true, 0), (true, 1), (true, 2), (true, 3), (true, 4), (true, 5), (true, 6), (true, 7)] [8] (by kernel_rfl) (by kernel_rfl) (fun _ => True) trivial ?_
      iterate 8
        refine wpHead_early rfl (fun K hK => ?_)
        go_simp
        refine hK _ ?_
        clear hK K
      refine wpStores_cons (w' := w5) rfl rfl rfl (by go_simp) trivial ?_
      unfold wpStores
      have hsz5 := HG5.out.size
      go_wp2_with fail
      go_roundw
      case rel => exact ⟨k + 1, by omega, by go_num, HB5.out, HP5.out, HBUT.out.trans ((But.of_below F1 ((Below.refl wr.heap.size wr).alloc (Nat.le_refl _) (.cells #[.int .i64 x, .slice (some ⟨gv, 0, none⟩) l.length cv] 105)).drew).trans (.of_grown HG5.out hmF) (fun _ h => .inl h)) (fun _ h => .inl h)⟩
      case measure => simp [intOf]; omega
    · have hlt' : ¬ (k : Int) < (n : Int) := by omega
      have hkn : k = n := by omega
      subst hkn
      have htk : T.loose.take k = T.loose := by rw [HNN.out]; exact List.take_length
      rw [htk] at hpr
      have HBR := Lib.hid hbr
      have HPR := Lib.hid hpr
      have HBUT := Lib.hid hbut
      clear hbr hpr hbut c4
      go_wp2_with (first
        | (refine wpList_put rfl 100 (.tmp 28) (.const (.slice none 0 0)) rfl rfl rfl HBR.out (vs := [.slice none 0 0]) rfl info100 (by simp [devCells]) (by simp [Value.oneCell']) ?_
           intro w7 hb7 hg7
           rw [lay_one _ _ _ (by simp [devCells])] at hb7))
      go_end0
      refine ⟨rfl, F1, ?_⟩
      have hs7 := SameBut.grown hlr hg7
      have h102 : ∀ t, (102 : TypeId) ≠ t → NoRow wr db t := fun t ht => NoRow.of HBR.out ht
      have hp7 := HPR.out.but hs7 (h102 5 (by decide)) (h102 105 (by decide)) (h102 50 (by decide)) (HPR.out.stable.apart HBR.out) (HPR.out.now.apart HBR.out)
      have e : S.flush = { T with stable := Dev.over T.stable T.loose, loose := [] } := by rw [HT.out]; rfl
      rw [e]
      refine HN.out.trans ⟨⟨hlr.mono hg7.size, ho, ⟨hk.blocks, hk.size, hk.pos, hk.after⟩, mS, mN, .slice none 0 0, vT, hb7, ⟨hp7.stable, hp7.now, .nil _ _ _ _ _, hp7.trace, hp7.apart⟩⟩, fun _ h => h, fun _ h => .inl h, HBUT.out.trans (.of_grown hg7 ho) (fun _ h => .inl h)⟩
theorem flush_gone (h : DiskAt w db S F) (hl : ¬ S.live) : Calls Try.prog 28 #[.pointer (some ⟨db, 0, none⟩)] w fun e w' => e = .panicked [gone] ∧ Calls1 db S.dead F w w' F := by
  have HD := Lib.hid h
  clear h
  go_enter Try.func28, Try.ntmps28
  go_wp2_with fail
  refine (count_gone HD.out hl).mono ?_
  rintro e w1 ⟨rfl, hC⟩
  go_wp2_with fail
  exact ⟨rfl, rfl, hC⟩
theorem write_gone (h : DiskAt w db S F) (hl : ¬ S.live) (x : Int) (v : Value) : Calls Try.prog 26 #[.pointer (some ⟨db, 0, none⟩), .int .i64 x, v] w fun e w' => e = .panicked [gone] ∧ Calls1 db S.dead F w w' F := by
  have HD := Lib.hid h
  clear h
  go_enter Try.func26, Try.ntmps26
  go_wp2_with fail
  refine (count_gone HD.out hl).mono ?_
  rintro e w1 ⟨rfl, hC⟩
  go_wp2_with fail
  exact ⟨rfl, rfl, hC⟩
end
end Go.Proofs.Ytbdnoiaglighhaa
