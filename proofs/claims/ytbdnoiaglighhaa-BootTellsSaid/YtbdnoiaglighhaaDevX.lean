/- The walk of package disk's Crash. No statement is proved here. -/
import Derived.Test.YtbdnoiaglighhaaDevC
namespace Go.Proofs.Ytbdnoiaglighhaa
set_option linter.unusedVariables false
set_option linter.unusedSimpArgs false
open Go.RowKit Go.Maps

section
variable {w w' w2 : World} {F F' F2 : Nat → Prop} {db : Nat} {S S' S2 : Dev}
set_option maxHeartbeats 4000000 in
set_option maxRecDepth 100000 in
theorem crash_any (h : DiskAt w db S F) (htr : S.trace.length ≤ 1000000) (hlo : S.loose.length ≤ 1000000) (A : Option Addr) (m d : Nat) (L : List Int) (hL : L.length = m) (hm6 : m ≤ 140737488355328) (hr : Rd w A (ints L)) (hAF : ∀ a, A = some a → 0 < L.length → ¬ F a.block) :
    Calls Try.prog 31 #[.pointer (some ⟨db, 0, none⟩), .slice A m d] w fun e w' => e = .returned (.tuple #[]) ∧ ∃ F', Calls1 db (S.crash L) F w w' F' := by
  obtain ⟨hlies, ho, hk, mS, mN, vL, vT, hb, hp⟩ := h
  obtain ⟨⟨cs0, hall0, hoL⟩, hLF⟩ := hp.loose
  obtain ⟨AL, cL, hvL⟩ := own_slice hoL
  subst hvL
  have c4 := hb.dev.2.2.2.2.1
  obtain ⟨n, hn⟩ : ∃ n, n = S.loose.length := ⟨_, rfl⟩
  rw [← hn] at c4 hlo
  have HNN := Lib.hid hn
  have HB := Lib.hid hb
  have HP := Lib.hid hp
  have HR := Lib.hid hr
  have HL := Lib.hid hL
  clear hoL hall0 hb hp hn hr hL
  go_enter Try.func31, Try.ntmps31
  go_wp2_with fail
  go_loopw [16] (fun i wr => ∃ k : Nat, k ≤ n ∧ i = .int .i64 (k : Int) ∧ ∃ Fk, Blk wr db 102 (devCells S mS mN (.slice AL S.loose.length cL) vT) ∧ Parts wr Fk { S with stable := Dev.crashTo L S.loose S.stable k } mS mN (.slice AL S.loose.length cL) vT ∧ Lies Fk wr ∧ (∀ g, F g → Fk g) ∧ (∀ g, Fk g → F g ∨ w.heap.size ≤ g) ∧ But F w wr) (fun i _ => n - (intOf i).toNat)
  case atStart => exact ⟨0, by omega, rfl, F, HB.out, HP.out, hlies, fun _ h => h, fun _ h => .inl h, .refl _ _⟩
  case round =>
    obtain ⟨k, hk2, rfl, Fk, hbr, hpr, hlr, hsub, hnew, hbut⟩ := hrel
    by_cases hlt : k < n
    · have hlt' : (k : Int) < (n : Int) := by omega
      have hk0 : (0 : Int) ≤ (k : Int) := by omega
      obtain ⟨⟨cs, hall, hoL⟩, _⟩ := hpr.loose
      have hkl : k < S.loose.length := by rw [← HNN.out]; exact hlt
      obtain ⟨g, cap, hv, hrd⟩ := rec_rd hoL (lw_len hall) (by decide) (k := k) (by rw [← hall.len]; exact hkl) hall.len.symm
      obtain ⟨c, hc, hx0, hx1, hlen, v, hcv, hdat⟩ := hall.get k hkl
      injection hv with hA _ hcap
      subst hA hcap
      rw [List.getD_eq_getElem?_getD, hc] at hrd
      simp only [Option.getD_some] at hrd
      obtain ⟨gv, cv, rfl, hd1, hd2⟩ := hdat
      have hdat : Dat wr Fk _ _ := ⟨gv, cv, rfl, hd1, hd2⟩
      clear hd1 hd2
      obtain ⟨p, hp⟩ : ∃ p, p = S.loose[k] := ⟨_, rfl⟩
      have hcr : Dev.crashTo L S.loose S.stable (k + 1) = Dev.chosen (Dev.crashTo L S.loose S.stable k) (Dev.choice L k) p := by
        rw [Dev.crashTo, List.getD_eq_getElem?_getD, List.getElem?_eq_getElem hkl, hp]; rfl
      rw [← hp] at hdat hcv hlen hx0 hx1
      obtain ⟨x, l⟩ := p
      simp only at hdat hcv hlen hx0 hx1
      subst hcv
      have HCR := Lib.hid hcr
      have HLEN := Lib.hid hlen
      have HRD := Lib.hid hrd
      have HBR := Lib.hid hbr
      have HPR := Lib.hid hpr
      have HBUT := Lib.hid hbut
      have HDAT := Lib.hid hdat
      have hch : (Dev.choice L k = 0 ∨ Dev.choice L k = 1 ∨ Dev.choice L k = 2) ∧ ∀ z, L[k]? = some z → ∃ r : Int, z.tmod 3 = r ∧ -3 < r ∧ r < 3 ∧ (r + 3) % 3 = Dev.choice L k := by
        unfold Dev.choice
        rcases Nat.lt_or_ge k L.length with hkL | hkL
        · rw [if_pos hkL]
          refine ⟨by omega, fun z hz => ⟨z.tmod 3, rfl, ?_⟩⟩
          rw [List.getD_eq_getElem?_getD, hz, Option.getD_some]
          have h1 := Int.tmod_lt_of_pos z (show (0 : Int) < 3 by omega)
          have h2 := Int.lt_tmod_of_pos z (show (0 : Int) < 3 by omega)
          have h3 := Int.mul_tdiv_add_tmod z 3
          generalize z.tmod 3 = r at *
          generalize z.tdiv 3 = q at *
          omega
        · rw [if_neg (by omega)]
          refine ⟨.inl rfl, fun z hz => ?_⟩
          rw [List.getElem?_eq_none hkL] at hz
          cases hz
      clear hrd hbr hpr hbut hdat hall hoL hc c4 hp hcr hlen
      have hrw : Rd wr A (ints L) := by
        cases A with
        | none =>
          intro h0
          obtain ⟨b', o', hA, _⟩ := HR.out h0
          cases hA
        | some a =>
          intro h0
          obtain ⟨b', o', hA, cs, t, fr, hb, hcc⟩ := HR.out h0
          have hA' := Option.some.inj hA
          subst hA'
          exact ⟨b', o', rfl, cs, t, fr, (HBUT.out.block b' (lt_of_heap hb) (hAF _ rfl (by simpa using h0))).trans hb, hcc⟩
      by_cases hkm : k < m
      · have hkm' : (k : Int) < (m : Int) := by omega
        have hkL : k < L.length := by rw [HL.out]; exact hkm
        obtain ⟨b, o, hA, hcell⟩ := hrw.cell (k := k) (by simpa using hkL)
        rw [List.getElem_map] at hcell
        have hbA : b < wr.heap.size := World.block_lt_of_cell? wr _ hcell
        obtain ⟨r, hr1, hr2, hr3, hr4⟩ := hch.2 L[k] (List.getElem?_eq_getElem hkL)
        generalize L[k] = z at *
        subst hA
        rcases hch.1 with hc0 | hc0 | hc0
        · rw [hc0] at hr4
          have hpa := HPR.out.same hlr ((Same.alloc hlr (.cells #[.int .i64 x, .slice (some ⟨gv, 0, none⟩) l.length cv] 105)).trans (.drew Fk _))
          have hda := HDAT.out.same ((Same.alloc hlr (.cells #[.int .i64 x, .slice (some ⟨gv, 0, none⟩) l.length cv] 105)).trans (.drew Fk _))
          obtain ⟨w5, hrun, hp5, hg5, n5, n102, n105⟩ := Parts.storeStable (w := (wr.alloc (.cells #[.int .i64 x, .slice (some ⟨gv, 0, none⟩) l.length cv] 105)).drew) (S := { S with stable := Dev.crashTo L S.loose S.stable k }) (hlr.mono (by show wr.heap.size ≤ (wr.alloc (.cells #[.int .i64 x, .slice (some ⟨gv, 0, none⟩) l.length cv] 105)).heap.size; simp)) ⟨hk.blocks, hk.size, hk.pos, hk.after⟩ hpa (x := x) ⟨hx0, hx1⟩ hda HLEN.out
          have hnedb : some db ≠ some mS := fun e => n102 _ (by have := Option.some.inj e; subst this; exact HBR.out.alloc _)
          have HB5 := Lib.hid (show Blk w5 db 102 _ from (hg5.block db (HBR.out.alloc _).lt hnedb).trans (HBR.out.alloc (.cells #[.int .i64 x, .slice (some ⟨gv, 0, none⟩) l.length cv] 105)))
          have HG5 := Lib.hid hg5
          have hmF : Fk mS := hpa.stable.1
          rw [show upd ({ S with stable := Dev.crashTo L S.loose S.stable k } : Dev).stable x l = Dev.crashTo L S.loose S.stable (k + 1) by rw [HCR.out]; unfold Dev.chosen; rw [if_pos hc0]] at hp5
          have HP5 := Lib.hid (show Parts w5 Fk { S with stable := Dev.crashTo L S.loose S.stable (k + 1) } mS mN _ vT from hp5)
          have c2' := HBR.out.dev.2.2.1
          have hdbr := HBR.out.lt
          clear hpa hda hp5 hg5 n5 n102 n105
          go_wp2_with (first | (refine wpList_getRd' rfl 105 (.tmp 19) rfl rfl HRD.out (by simp) Try.underlying105 rfl info105 ?_))
          try simp only [Act.put]
          refine wp_region_mix [(true, 0), (true, 1), (true, 2), (true, 3), (true, 4), (true, 5), (true, 6), (true, 7)] [8] (by kernel_rfl) (by kernel_rfl) (fun _ => True) trivial ?_
          iterate 8
            refine wpHead_early rfl (fun K hK => ?_)
            go_simp
            refine hK _ ?_
            clear hK K
          refine wpStores_cons (w' := w5) rfl rfl rfl (by go_simp) trivial ?_
          unfold wpStores
          have hsz5 := HG5.out.size
          go_wp2_with fail
          go_roundw
          case rel => exact ⟨k + 1, by omega, by go_num, Fk, HB5.out, HP5.out, hlr.mono (Nat.le_trans (by simp) hsz5), hsub, hnew, HBUT.out.trans ((But.of_below Fk ((Below.refl wr.heap.size wr).alloc (Nat.le_refl _) (.cells #[.int .i64 x, .slice (some ⟨gv, 0, none⟩) l.length cv] 105)).drew).trans (.of_grown HG5.out hmF) (fun _ h => .inl h)) hnew⟩
          case measure => simp [intOf]; omega
        · rw [hc0] at hr4
          have hbl := (Below.refl wr.heap.size wr).alloc (Nat.le_refl _) (.cells #[.int .i64 x, .slice (some ⟨gv, 0, none⟩) l.length cv] 105)
          have e1 : Dev.crashTo L S.loose S.stable (k + 1) = Dev.crashTo L S.loose S.stable k := by rw [HCR.out]; unfold Dev.chosen; rw [if_neg (by omega), if_neg (by omega)]
          have HE1 := Lib.hid e1
          clear e1
          go_wp2_with (first | (refine wpList_getRd' rfl 105 (.tmp 19) rfl rfl HRD.out (by simp) Try.underlying105 rfl info105 ?_))
          go_roundw
          case rel => exact ⟨k + 1, by omega, by go_num, Fk, HBR.out.alloc _, by rw [HE1.out]; exact HPR.out.alloc hlr _, hlr.mono hbl.size, hsub, hnew, HBUT.out.trans (.of_below Fk hbl) hnew⟩
          case measure => simp [intOf]; omega
        · rw [hc0] at hr4
          have hbl := (Below.refl wr.heap.size wr).alloc (Nat.le_refl _) (.cells #[.int .i64 x, .slice (some ⟨gv, 0, none⟩) l.length cv] 105)
          have hl0 : 0 < l.length := by rw [HLEN.out]; exact hk.pos
          have hl6 : l.length ≤ 60000 := by rw [HLEN.out]; exact hk.size
          have hrv : Rd wr (some ⟨gv, 0, none⟩) (bs l) := by obtain ⟨g1, c1, he, ho1, _⟩ := HDAT.out; exact .of_own ho1
          have HRV := Lib.hid (hrv.below hbl)
          have HC0 := Lib.hid hc0
          clear hrv hc0
          go_wp2_with (first | (refine wpList_getRd' rfl 105 (.tmp 19) rfl rfl HRD.out (by simp) Try.underlying105 rfl info105 ?_))
          refine (clone_calls gv 0 cv l l.length rfl hl0 (by omega) _ HRV.out).mono ?_
          rintro e' w6 ⟨gb, cb, rfl, hown6, hb6⟩
          have hgb := hown6.lt gb rfl
          have hszA : (wr.alloc (.cells #[.int .i64 x, .slice (some ⟨gv, 0, none⟩) l.length cv] 105)).heap.size = wr.heap.size + 1 := by simp
          rw [hszA] at hgb hb6
          have HO6 := Lib.hid (show w6.ownsRow 0 5 1 (.slice (some ⟨gb, 0, none⟩) l.length cb) l.length (bs (garbTo l 0)) by
            have : garbTo l 0 = l := by simp [garbTo]
            rw [this]; exact Joins.ownsRow_le hown6 (Nat.zero_le _))
          have HB6 := Lib.hid hb6
          clear hown6 hb6 hcell
          go_wp2_with fail
          go_loopw [50] (fun i wx => ∃ j : Nat, j ≤ l.length ∧ i = .int .i64 (j : Int) ∧ wx.ownsRow 0 5 1 (.slice (some ⟨gb, 0, none⟩) l.length cb) l.length (bs (garbTo l j)) ∧ Below (wr.heap.size + 1) (wr.alloc (.cells #[.int .i64 x, .slice (some ⟨gv, 0, none⟩) l.length cv] 105)) wx) (fun i _ => l.length - (intOf i).toNat)
          case atStart => exact ⟨0, by omega, rfl, HO6.out, HB6.out⟩
          case round =>
            obtain ⟨wB, rfl⟩ : ∃ wB, wB = wr := ⟨wr, rfl⟩
            obtain ⟨j, hj, rfl, hown, hbx⟩ := hrel
            by_cases hjl : j < l.length
            · have hjl' : (j : Int) < (l.length : Int) := by omega
              have hj0 : (0 : Int) ≤ (j : Int) := by omega
              obtain ⟨cs9, hcs, hcl, hget, hset⟩ := own_put hown hjl
              obtain ⟨y, hy⟩ : ∃ y, y = l[j] := ⟨_, rfl⟩
              have p0 := hcs.cellAt (i := j) (v := .int .u8 (y.toNat : Int)) ((hget j hjl).trans (by rw [List.getElem?_map, garbTo_at l j hjl, hy]; rfl))
              have HSet := Lib.hid hset
              have HCS := Lib.hid hcs
              have HU := Lib.hid (show (bs (garbTo l j)).set j (byt (y ^^^ 165)) = bs (garbTo l (j + 1)) by rw [← garbTo_set l j hjl, hy]; exact List.map_set.symm)
              have hxy := xor165 y
              have HBX := Lib.hid hbx
              have hsx := hbx.size
              clear hset hcs hget hown hy hbx
              go_wp2_with (first
                | (refine wpList_put rfl 5 (.tmp 58) (.tmp 57) rfl rfl rfl HCS.out (vs := [byt (y ^^^ 165)]) rfl info5 (by simp; omega) (by simp [byt, Value.oneCell']) ?_
                   intro w9 hP9 hg9
                   have O9 := Lib.hid (HSet.out _ _ hP9)
                   have G9 := Lib.hid hg9
                   clear hP9 hg9))
              go_roundw
              case rel => exact ⟨j + 1, by omega, by go_num, by rw [← HU.out]; exact O9.out, HBX.out.grown G9.out (by rw [hszA] at hsx; exact hsx) (fun q hq => by cases hq; exact hgb.1)⟩
              case measure => simp [intOf]; omega
            · have hjl' : ¬ (j : Int) < (l.length : Int) := by omega
              obtain rfl : j = l.length := by omega
              rw [garbTo_all] at hown
              have hgl : (Dev.garbled l).length = l.length := by simp [Dev.garbled]
              have hsx := hbx.size
              rw [hszA] at hsx
              have hsame : Same Fk wr wB := ⟨by omega, fun g hg => (hbx.block g (by have := hlr g hg; omega)).trans (Below.heap_alloc wr _ g (hlr g hg))⟩
              have hnFk : ∀ g, Fk g → (fun g => Fk g ∨ g = gb) g := fun g h => .inl h
              have hgx := (hown.lt gb rfl).2
              have hl2 : Lies (fun g => Fk g ∨ g = gb) wB := fun g hg => hg.elim (fun h => (hlr.mono (by omega)) g h) (fun h => h ▸ hgx)
              have hpa : Parts wB.drew (fun g => Fk g ∨ g = gb) { S with stable := Dev.crashTo L S.loose S.stable k } mS mN (.slice (some ⟨g, 0, none⟩) S.loose.length cL) vT := ((HPR.out.same hlr hsame).sub hnFk).same hl2 (.drew _ _)
              have hda : Dat wB.drew (fun g => Fk g ∨ g = gb) (.slice (some ⟨gb, 0, none⟩) l.length cb) (Dev.garbled l) := by
                refine ⟨gb, cb, by rw [hgl], ?_, .inr rfl⟩
                rw [hgl]
                exact hown
              obtain ⟨w5, hrun, hp5, hg5, n5, n102, n105⟩ := Parts.storeStable (w := wB.drew) (S := { S with stable := Dev.crashTo L S.loose S.stable k }) hl2 ⟨hk.blocks, hk.size, hk.pos, hk.after⟩ hpa (x := x) ⟨hx0, hx1⟩ hda (by rw [hgl]; exact HLEN.out)
              have hbB : Blk wB db 102 (devCells S mS mN (.slice (some ⟨g, 0, none⟩) S.loose.length cL) vT) := (hbx.block db (by have := HBR.out.lt; omega)).trans ((Below.heap_alloc wr _ db HBR.out.lt).trans HBR.out)
              have hnedb : some db ≠ some mS := fun e => n102 _ (by have := Option.some.inj e; subst this; exact hbB)
              have HB5 := Lib.hid (show Blk w5 db 102 _ from (hg5.block db hbB.lt hnedb).trans hbB)
              have HG5 := Lib.hid hg5
              have hmF : (fun g => Fk g ∨ g = gb) mS := hpa.stable.1
              rw [show upd ({ S with stable := Dev.crashTo L S.loose S.stable k } : Dev).stable x (Dev.garbled l) = Dev.crashTo L S.loose S.stable (k + 1) by rw [HCR.out]; unfold Dev.chosen; rw [if_neg (by have := HC0.out; omega), if_pos HC0.out]] at hp5
              have HP5 := Lib.hid (show Parts w5 (fun g => Fk g ∨ g = gb) { S with stable := Dev.crashTo L S.loose S.stable (k + 1) } mS mN _ vT from hp5)
              have c2 := hbB.dev.2.2.1
              have q0 : wB.cell? ⟨wr.heap.size, 0, none⟩ = some (.int .i64 x) := (hbx.cell (p := ⟨wr.heap.size, 0, none⟩) (by show wr.heap.size < wr.heap.size + 1; omega)).trans ((Blk.new wr 105 [.int .i64 x, .slice (some ⟨gv, 0, none⟩) l.length cv]).cellAt rfl)
              have HBX := Lib.hid hbx
              have HL2 := Lib.hid hl2
              clear hpa hda hp5 hg5 n5 n102 n105 hbx hown hsame hl2 hnFk hgl
              go_wp2_with fail
              try simp only [Act.put]
              refine wp_region_mix [(true, 0), (true, 1), (true, 2), (true, 3), (true, 4), (true, 5), (true, 6)] [7] (by kernel_rfl) (by kernel_rfl) (fun _ => True) trivial ?_
              iterate 7
                refine wpHead_early rfl (fun K hK => ?_)
                go_simp
                refine hK _ ?_
                clear hK K
              refine wpStores_cons (w' := w5) rfl rfl rfl (by go_simp) trivial ?_
              unfold wpStores
              have hsz5 := HG5.out.size
              go_wp2_with fail
              go_roundw
              case rel =>
                refine ⟨k + 1, by omega, by go_num, _, HB5.out, HP5.out, HL2.out.mono hsz5, fun g hg => .inl (hsub g hg), fun g hg => hg.elim (hnew g) (fun h => .inr (by have := HBUT.out.size; omega)), ?_⟩
                have b1 : But Fk wr wB := ⟨HBX.out.os, HBX.out.tape, HBX.out.output, by omega, fun g hg _ => (HBX.out.block g (by omega)).trans (Below.heap_alloc wr _ g hg)⟩
                exact HBUT.out.trans (b1.trans (G := fun g => Fk g ∨ g = gb) ((But.refl _ wB).drew.trans (.of_grown HG5.out hmF) (fun _ h => .inl h)) (fun g h => h.imp id (fun e => by omega))) hnew
              case measure => simp [intOf]; omega
      · have hkm' : ¬ (k : Int) < (m : Int) := by omega
        have hc0 : Dev.choice L k = 0 := by unfold Dev.choice; rw [if_neg (by rw [HL.out]; exact hkm)]
        have hpa := HPR.out.same hlr ((Same.alloc hlr (.cells #[.int .i64 x, .slice (some ⟨gv, 0, none⟩) l.length cv] 105)).trans (.drew Fk _))
        have hda := HDAT.out.same ((Same.alloc hlr (.cells #[.int .i64 x, .slice (some ⟨gv, 0, none⟩) l.length cv] 105)).trans (.drew Fk _))
        obtain ⟨w5, hrun, hp5, hg5, n5, n102, n105⟩ := Parts.storeStable (w := (wr.alloc (.cells #[.int .i64 x, .slice (some ⟨gv, 0, none⟩) l.length cv] 105)).drew) (S := { S with stable := Dev.crashTo L S.loose S.stable k }) (hlr.mono (by show wr.heap.size ≤ (wr.alloc (.cells #[.int .i64 x, .slice (some ⟨gv, 0, none⟩) l.length cv] 105)).heap.size; simp)) ⟨hk.blocks, hk.size, hk.pos, hk.after⟩ hpa (x := x) ⟨hx0, hx1⟩ hda HLEN.out
        have hnedb : some db ≠ some mS := fun e => n102 _ (by have := Option.some.inj e; subst this; exact HBR.out.alloc _)
        have HB5 := Lib.hid (show Blk w5 db 102 _ from (hg5.block db (HBR.out.alloc _).lt hnedb).trans (HBR.out.alloc (.cells #[.int .i64 x, .slice (some ⟨gv, 0, none⟩) l.length cv] 105)))
        have HG5 := Lib.hid hg5
        have hmF : Fk mS := hpa.stable.1
        rw [show upd ({ S with stable := Dev.crashTo L S.loose S.stable k } : Dev).stable x l = Dev.crashTo L S.loose S.stable (k + 1) by rw [HCR.out]; unfold Dev.chosen; rw [if_pos hc0]] at hp5
        have HP5 := Lib.hid (show Parts w5 Fk { S with stable := Dev.crashTo L S.loose S.stable (k + 1) } mS mN _ vT from hp5)
        have c2' := HBR.out.dev.2.2.1
        have hdbr := HBR.out.lt
        clear hpa hda hp5 hg5 n5 n102 n105
        go_wp2_with (first | (refine wpList_getRd' rfl 105 (.tmp 19) rfl rfl HRD.out (by simp) Try.underlying105 rfl info105 ?_))
        try simp only [Act.put]
        refine wp_region_mix [(true, 0), (true, 1), (true, 2), (true, 3), (true, 4), (true, 5), (true, 6), (true, 7)] [8] (by kernel_rfl) (by kernel_rfl) (fun _ => True) trivial ?_
        iterate 8
          refine wpHead_early rfl (fun K hK => ?_)
          go_simp
          refine hK _ ?_
          clear hK K
        refine wpStores_cons (w' := w5) rfl rfl rfl (by go_simp) trivial ?_
        unfold wpStores
        have hsz5 := HG5.out.size
        go_wp2_with fail
        go_roundw
        case rel => exact ⟨k + 1, by omega, by go_num, Fk, HB5.out, HP5.out, hlr.mono (Nat.le_trans (by simp) hsz5), hsub, hnew, HBUT.out.trans ((But.of_below Fk ((Below.refl wr.heap.size wr).alloc (Nat.le_refl _) (.cells #[.int .i64 x, .slice (some ⟨gv, 0, none⟩) l.length cv] 105)).drew).trans (.of_grown HG5.out hmF) (fun _ h => .inl h)) hnew⟩
        case measure => simp [intOf]; omega
    · have hlt' : ¬ (k : Int) < (n : Int) := by omega
      have hkn : k = n := by omega
      subst hkn
      obtain ⟨T, hT⟩ : ∃ T : Dev, T = { S with stable := Dev.crashTo L S.loose S.stable k } := ⟨_, rfl⟩
      rw [← hT] at hpr
      have hTn : k = S.loose.length := HNN.out
      have HT := Lib.hid hT
      have hTc : devCells S mS mN (.slice AL S.loose.length cL) vT = devCells T mS mN (.slice AL S.loose.length cL) vT := by rw [hT]; rfl
      rw [hTc] at hbr
      have hokT : T.Ok := by rw [hT]; exact ⟨hk.blocks, hk.size, hk.pos, hk.after⟩
      have hmm := @run_makeMap Try.prog
      have HBR := Lib.hid (hbr.alloc (.map #[] 0))
      have hdbr := hbr.lt
      have HPR := Lib.hid hpr
      have HBUT := Lib.hid hbut
      have hdbF := hsub db ho
      have hmSlt : mS < wr.heap.size := hlr mS hpr.stable.1
      have hbr0 := hbr
      have HBR0 := Lib.hid hbr
      clear hbr hpr hbut hT hTc c4 hbr0
      go_wp2_with (first
        | (refine wpList_put rfl 99 (.tmp 71) (.tmp 69) rfl rfl rfl HBR.out (vs := [.map (some wr.heap.size)]) rfl info99 (by simp [devCells]) (by simp [Value.oneCell']) ?_
           intro w3 hb3 hg3
           rw [lay_one _ _ _ (by simp [devCells])] at hb3
           have c2 := hb3.cellAt (i := 2) (v := .map (some mS)) rfl
           have HB3 := Lib.hid (show Blk w3 db 102 (devCells T mS wr.heap.size (.slice AL S.loose.length cL) vT) from hb3)
           obtain ⟨D, hoS3, hst3⟩ := copy_start hlr hdbF HBR0.out HPR.out HB3.out hg3
           have HG3 := Lib.hid hg3
           have HST := Lib.hid hst3
           clear hb3 hg3 hst3)
        | (at_range; refine wpList_range_own _ rfl _ 99 rfl 3 41 key3 (by kernel_rfl) Rv mS (Maps.size D) D rfl hoS3 ?_; intro w4 hrg4 hg4 hs4))
      try go_frame
      have hcp4 := HST.out w4 hrg4 hg4 hs4
      have hg3s := HG3.out.size
      have hszA : (wr.alloc (.map #[] 0)).heap.size = wr.heap.size + 1 := by simp
      have hbw4 : But (fun g => Fk g ∨ g = wr.heap.size) wr w4 := (But.of_below _ ((Below.refl wr.heap.size wr).alloc (Nat.le_refl _) (.map #[] 0))).trans ((But.of_grown (F := fun g => Fk g ∨ g = wr.heap.size) HG3.out (.inl hdbF)).trans (.of_grown_none _ hg4) (fun _ h => .inl h)) (fun _ h => .inl h)
      have HBW4 := Lib.hid hbw4
      have HCP4 := Lib.hid hcp4
      obtain ⟨wq, hwq⟩ : ∃ wq, wq = wr := ⟨_, rfl⟩
      rw [← hwq] at HBW4 HCP4 hg3s hszA hmSlt hlr HBUT
      obtain ⟨sz, hsz⟩ : ∃ sz, sz = wq.heap.size := ⟨_, rfl⟩
      obtain ⟨r, hr⟩ : ∃ r, r = w3.heap.size := ⟨_, rfl⟩
      rw [← hr, ← hsz] at HCP4
      clear hbw4 hcp4 hrg4 hg4 hoS3 c2
      go_loopw [9] (fun _ wx => ∃ left q, Copy wx (fun g => Fk g ∨ g = sz) db T mS sz (.slice AL S.loose.length cL) vT r D left q ∧ But (fun g => Fk g ∨ g = sz) wq wx) (fun _ wx => wx.rangeLeft mS r)
      case atStart => exact ⟨_, _, HCP4.out, by rw [hsz]; exact HBW4.out⟩
      case round =>
        subst hr
        have HSZ := Lib.hid hsz
        have HWQ := Lib.hid hwq
        clear hsz hwq
        obtain ⟨wB, rfl⟩ : ∃ wB, wB = wr := ⟨wr, rfl⟩
        obtain ⟨left, q, hcp, hbx⟩ := hrel
        have hrg := hcp.rng
        have HCP := Lib.hid hcp
        have HBX := Lib.hid hbx
        clear hcp hbx
        go_wp2_with (first
          | (at_next; refine wpList_next_ranges _ rfl _ rfl 3 key3 Rv (Value.int .i64) (fun c => c) (fun key kl hkey => by obtain ⟨x, rfl, _⟩ := keyOf_int_inv Try.underlying3 hkey; exact ⟨x, rfl⟩) (fun v y _ => ⟨v, rfl⟩) mS w3.heap.size (Maps.size D) D left q rfl hrg ?_ ?_))
        · intro hq0 hl0
          clear hrg
          have hpe := copy_end HCP.out hl0
          have HPE := Lib.hid hpe
          have HBE := Lib.hid HCP.out.blk
          have hlE := HCP.out.lies
          clear hpe
          go_wp2_with (first
            | (refine wpList_put rfl 100 (.tmp 92) (.const (.slice none 0 0)) rfl rfl rfl HBE.out (vs := [.slice none 0 0]) rfl info100 (by simp [devCells]) (by simp [Value.oneCell']) ?_
               intro w7 hb7 hg7
               rw [lay_one _ _ _ (by simp [devCells])] at hb7
               have HB7 := Lib.hid hb7
               have HG7 := Lib.hid hg7
               clear hb7 hg7)
            | (refine wpList_put rfl 4 (.tmp 94) (.const (.bool false)) rfl rfl rfl HB7.out (vs := [.bool false]) rfl info4 (by simp [devCells]) (by simp [Value.oneCell']) ?_
               intro w8 hb8 hg8
               rw [lay_one _ _ _ (by simp [devCells])] at hb8
               have HB8 := Lib.hid hb8
               have HG8 := Lib.hid hg8
               clear hb8 hg8)
            | (refine wpList_put rfl 3 (.tmp 96) (.const (.int .i64 (-1))) rfl rfl rfl HB8.out (vs := [.int .i64 (-1)]) rfl info3 (by simp [devCells]) (by simp [Value.oneCell']) ?_
               intro w9 hb9 hg9
               rw [lay_one _ _ _ (by simp [devCells])] at hb9
               have HB9 := Lib.hid (show Blk w9 db 102 (devCells { T with loose := [], off := false, after := -1 } mS sz (.slice none 0 0) vT) from hb9)
               have hgA := HG7.out.andThen (HG8.out.andThen hg9 (fun _ h => .inr h)) (fun _ h => .inr h)
               have hdk := crash_fin hlE (.inl hdbF) hokT HPE.out HBE.out hgA HB9.out
               have HDK := Lib.hid hdk
               have HGA := Lib.hid hgA
               clear hb9 hg9 hgA hdk))
          have hT9 : ({ T with now := T.stable, loose := [], off := false, after := -1 } : Dev).note 4 0 [] none = S.crash L := by
            rw [HT.out]
            show _ = Dev.note _ 4 0 [] none
            rw [hTn]
          have hbT : But F w w9 := HBUT.out.trans ((HBX.out.trans (.of_grown HGA.out (.inl hdbF)) (fun _ h => .inl h)).trans (But.refl (fun g => Fk g ∨ g = sz) w9) (fun _ h => .inl h)) (fun g h => h.elim (fun h => hnew g h) (fun h => .inr (by have := HBUT.out.size; have := HSZ.out; omega)))
          have HBT := Lib.hid hbT
          have HT9 := Lib.hid hT9
          have htr9 : T.trace.length ≤ 1000000 := by rw [HT.out]; exact htr
          clear hbT hT9
          refine (note_calls HDK.out 4 0 none 0 0 [] rfl (Nat.le_refl _) (fun h => absurd h (by simp)) none (.slice none 0 0) rfl htr9).mono ?_
          rintro e w10 ⟨rfl, F10, hc10⟩
          rw [HT9.out] at hc10
          go_wp2_with fail
          go_end0
          exact ⟨rfl, F10, hc10.1, fun g hg => hc10.2.1 g (.inl (hsub g hg)), fun g hg => (hc10.2.2.1 g hg).elim (fun h => h.elim (fun h => hnew g h) (fun h => .inr (by have := HBUT.out.size; have := HSZ.out; omega))) (fun h => .inr (by have := HBT.out.size; omega)), HBT.out.trans hc10.2.2.2 (fun g h => h.elim (fun h => hnew g h) (fun h => .inr (by have := HBUT.out.size; have := HSZ.out; omega)))⟩
        · intro x c kl yd yp w1 q1 hkey hlk hR hat hrg1 hqlt hg1 hs1 hen
          obtain ⟨g, n2, cap, rfl, hb1, w2, hrun, hcp2, hbut2⟩ := copy_step (y := (yd, yp)) hokT HCP.out hkey hlk hR hat hrg1 hg1
          have HCP2 := Lib.hid hcp2
          have HBUT2 := Lib.hid hbut2
          have HM := Lib.hid (And.intro hcp2.rng.left_eq hrg.left_eq)
          have c3 := hb1.dev.2.2.2.1
          have hdb1 := hb1.lt
          clear hcp2 hbut2 hkey hlk hR hat hrg1 hg1 hrg hb1
          go_wp2_with fail
          go_roundw
          case rel => exact ⟨_, q1, HCP2.out, HBX.out.trans HBUT2.out (fun g hg => hg.elim .inl (fun h => .inr (by omega)))⟩
          case measure => rw [HM.out.1, HM.out.2]; exact hqlt
theorem crash_calls (h : DiskAt w db S F) (htr : S.trace.length ≤ 1000000) (hlo : S.loose.length ≤ 1000000) (A : Option Addr) (m d : Nat) (L : List Int) (hL : L.length = m) (hm6 : m ≤ 140737488355328) (hr : Rd w A (ints L)) (hAF : ∀ a, A = some a → ¬ F a.block) :
    Calls Try.prog 31 #[.pointer (some ⟨db, 0, none⟩), .slice A m d] w fun e w' => e = .returned (.tuple #[]) ∧ ∃ F', Calls1 db (S.crash L) F w w' F' := crash_any h htr hlo A m d L hL hm6 hr (fun a ha _ => hAF a ha)
end
end Go.Proofs.Ytbdnoiaglighhaa
