/- The walks of package disk's New and Trace. No statement is proved here. -/
import Derived.Test.YtbdnoiaglighhaaDevH
namespace Go.Proofs.Ytbdnoiaglighhaa
set_option linter.unusedVariables false
set_option linter.unusedSimpArgs false
open Go.RowKit Go.Maps

set_option maxHeartbeats 400000 in
set_option maxRecDepth 100000 in
theorem new_calls (b s : Nat) (hb : b ≤ 100000) (hs : s ≤ 60000) (h0 : 0 < s) (w : World) : Calls Try.prog 24 #[.int .i64 (b : Int), .int .i64 (s : Int)] w fun e w' =>
    ∃ db, e = .returned (.pointer (some ⟨db, 0, none⟩)) ∧ ∃ F, DiskAt w' db (Dev.fresh b s) F ∧ (∀ g, F g → w.heap.size ≤ g) ∧ Below w.heap.size w w' := by
  have hmm := @run_makeMap Try.prog
  have e1 : ¬ (b : Int) < 0 := by omega
  have e2 : ¬ (s : Int) < 0 := by omega
  have e3 : ¬ (100000 : Int) < (b : Int) := by omega
  have e4 : ¬ (60000 : Int) < (s : Int) := by omega
  go_enter Try.func24, Try.ntmps24
  go_wp2
  go_ret
  have hb1 := (Blk.new ((w.alloc (.map #[] 0)).alloc (.map #[] 0)) 102 (devCells (Dev.fresh b s) w.heap.size (w.heap.size + 1) (.slice none 0 0) (.slice none 0 0)))
  refine ⟨w.heap.size + 1 + 1, rfl, fun g => w.heap.size ≤ g ∧ g < w.heap.size + 3, ⟨?_, by omega, ⟨hb, hs, h0, by show (-1 : Int) ≤ -1 ∧ (-1 : Int) ≤ _; omega⟩, w.heap.size, w.heap.size + 1, .slice none 0 0, .slice none 0 0, ?_, ?_⟩, fun g hg => hg.1, ?_⟩
  · intro g hg
    simp
    omega
  · rw [show ((w.alloc (.map #[] 0)).alloc (.map #[] 0)).heap.size = w.heap.size + 1 + 1 by simp] at hb1
    exact hb1
  · have m1 : MapIs (w.alloc (.map #[] 0)) (fun g => w.heap.size ≤ g ∧ g < w.heap.size + 3) w.heap.size b s (fun _ => none) := MapIs.made w _ b s (by omega)
    have m2 : MapIs ((w.alloc (.map #[] 0)).alloc (.map #[] 0)) (fun g => w.heap.size ≤ g ∧ g < w.heap.size + 3) (w.heap.size + 1) b s (fun _ => none) := by
      have := MapIs.made (w.alloc (.map #[] 0)) (fun g => w.heap.size ≤ g ∧ g < w.heap.size + 3) b s (by simp)
      simpa using this
    have old : ∀ (wx : World) (o : Obj) (m : Nat), m < wx.heap.size → MapIs wx (fun g => w.heap.size ≤ g ∧ g < w.heap.size + 3) m b s (fun _ => none) → MapIs (wx.alloc o) (fun g => w.heap.size ≤ g ∧ g < w.heap.size + 3) m b s (fun _ => none) := fun wx o m hm h => by
      obtain ⟨hF, D, ho, hk, hf⟩ := h
      exact ⟨hF, D, ownsMap_same ho (Below.heap_alloc wx o m hm), hk, fun x a c => hf x a c⟩
    exact ⟨old _ _ _ (by simp; omega) (old _ _ _ (by simp) m1), old _ _ _ (by simp) m2, .nil _ _ _ _ _, .nil _ _ _ _ _, by omega⟩
  · exact (((Below.refl w.heap.size w).alloc (Nat.le_refl _) _).alloc (by simp) _).alloc (by simp; omega) _

/-- slices.Clone of whatever slice that is not nil. -/
theorem clone_any (g o c : Nat) (l : List UInt8) (n : Nat) (hn : l.length = n) (hm : n ≤ 16777216) (w : World) (hr : Rd w (some ⟨g, o, none⟩) (bs l)) (h0 : 0 < n) (base : Nat) (hb : base ≤ w.heap.size) :
    Calls Try.prog 76 #[.slice (some ⟨g, o, none⟩) n c] w fun e w' => ∃ v, e = .returned v ∧ Dat w' (fun g => base ≤ g) v l ∧ Below w.heap.size w w' := by
  refine (clone_calls g o c l n hn h0 hm w hr).mono ?_
  rintro e w' ⟨g', c', rfl, hown, hbel⟩
  subst hn
  exact ⟨_, rfl, ⟨g', c', rfl, Joins.ownsRow_le hown (Nat.zero_le _), Nat.le_trans hb (hown.lt g' rfl).1⟩, hbel⟩
theorem info41 : (Try.prog.info? 41).map (·.size) = some 1 := by kernel_rfl
/-- Each write's body in a trace is a block. -/
def Dev.Bodies (S : Dev) : Prop := ∀ e ∈ S.trace, ∀ l, e.body = some l → 0 < l.length ∧ l.length ≤ 60000
theorem ev_len {w : World} {F : Nat → Prop} : ∀ {xs : List Ev} {cs : List (List Value)}, All2 (EvIs w F) xs cs → ∀ c ∈ cs, c.length = 15
  | [], [], _, c, hc => by cases hc
  | _ :: xs, d :: cs, h, c, hc => by
    rcases List.mem_cons.1 hc with rfl | hc
    · obtain ⟨h1, v, rfl, _⟩ := h.1; simp [h1]
    · exact ev_len h.2 c hc
  | [], _ :: _, h, _, _ => h.elim
  | _ :: _, [], h, _, _ => h.elim
theorem All2.take {α β : Type} {R : α → β → Prop} : ∀ {xs : List α} {ys : List β} (k : Nat), All2 R xs ys → All2 R (xs.take k) (ys.take k)
  | _, _, 0, _ => trivial
  | [], [], k + 1, _ => trivial
  | _ :: _, _ :: _, k + 1, h => ⟨h.1, All2.take k h.2⟩
  | [], _ :: _, k + 1, h => h.elim
  | _ :: _, [], k + 1, h => h.elim
/-- One event more in a row of the caller's own. -/
theorem traced {w0 w w6 w7 : World} {o : Obj} {vo v7 : Value} {xs : List Ev} {cs : List (List Value)} {e : Ev} {c : List Value} (h : RecsIs w (fun g => w0.heap.size ≤ g) 50 15 vo (EvIs w (fun g => w0.heap.size ≤ g)) xs) (ha : All2 (EvIs w (fun g => w0.heap.size ≤ g)) xs cs) (ho : w.ownsRow 0 50 15 vo xs.length cs.flatten)
    (hb : Below w.heap.size w w6) (he : EvIs w6 (fun g => w0.heap.size ≤ g) e c) (h7 : w7.ownsRow 0 50 15 v7 (xs.length + 1) (cs.flatten ++ c)) (hg : (w6.alloc o).grownBy w7 vo.ownBlock) (hl : v7.ownBlock = vo.ownBlock ∨ v7.ownBlock = some (w6.alloc o).heap.size) (hw : w0.heap.size ≤ w.heap.size) :
    RecsIs w7 (fun g => w0.heap.size ≤ g) 50 15 v7 (EvIs w7 (fun g => w0.heap.size ≤ g)) (xs ++ [e]) ∧ (Below w0.heap.size w0 w → Below w0.heap.size w0 w7) := by
  have hlt : ∀ {u : Value} {l : List UInt8} {wx : World}, Dat wx (fun g => w0.heap.size ≤ g) u l → ∃ g c, u = .slice (some ⟨g, 0, none⟩) l.length c ∧ wx.ownsRow 0 5 1 u l.length (bs l) ∧ w0.heap.size ≤ g ∧ g < wx.heap.size := fun hd => by
    obtain ⟨g, c, rfl, ho, hF⟩ := hd
    exact ⟨g, c, rfl, ho, hF, (ho.lt g rfl).2⟩
  have hsz6 := hb.size
  have ho6 := own_same ho (fun g hg => hb.block g (ho.lt g hg).2)
  have h67 : ∀ {u : Value} {l : List UInt8}, Dat w6 (fun g => w0.heap.size ≤ g) u l → Dat w7 (fun g => w0.heap.size ≤ g) u l := fun hd => by
    obtain ⟨g, c, rfl, ho', hF, hl'⟩ := hlt hd
    refine ⟨g, c, rfl, own_same ho' (fun k hk => ?_), hF⟩
    cases hk
    rw [hg.block g (by simp; omega) (fun e => own_ne ho' (own_norow ho6 e.symm (by decide)) rfl)]
    exact Below.heap_alloc w6 o g hl'
  have hw6 : ∀ {u : Value} {l : List UInt8}, Dat w (fun g => w0.heap.size ≤ g) u l → Dat w6 (fun g => w0.heap.size ≤ g) u l := fun hd => by
    obtain ⟨g, c, rfl, ho', hF, hl'⟩ := hlt hd
    exact ⟨g, c, rfl, own_same ho' (fun k hk => by cases hk; exact hb.block g hl'), hF⟩
  have hev : ∀ {wx wy : World} {e : Ev} {c : List Value}, (∀ {u : Value} {l : List UInt8}, Dat wx (fun g => w0.heap.size ≤ g) u l → Dat wy (fun g => w0.heap.size ≤ g) u l) → EvIs wx (fun g => w0.heap.size ≤ g) e c → EvIs wy (fun g => w0.heap.size ≤ g) e c := fun {wx wy e c} hd he => by
    obtain ⟨a1, u, a2, a3⟩ := he
    refine ⟨a1, u, a2, ?_⟩
    cases hx : e.body with
    | none => simpa [hx] using a3
    | some l => simp only [hx] at a3 ⊢; exact hd a3
  refine ⟨⟨⟨cs ++ [c], All2.snoc (ha.imp fun _ _ h => hev h67 (hev hw6 h)) (hev h67 he), ?_⟩, fun g hgg => ?_⟩, fun h0 => ?_⟩
  · rw [show (cs ++ [c]).flatten = cs.flatten ++ c by simp, List.length_append]
    exact h7
  · rcases hl with hl | hl
    · exact h.2 g (hl ▸ hgg)
    · rw [hl] at hgg
      have := Option.some.inj hgg
      simp at this
      show w0.heap.size ≤ g
      omega
  · exact ((h0.trans (hb.mono hw)).alloc (by omega) o).grown hg (by simp; omega) (fun j hj => h.2 j hj)
theorem Dat.grown {w w' : World} {F : Nat → Prop} {v : Value} {l : List UInt8} {b : Nat} (h : Dat w F v l) (hg : w.grownBy w' (some b)) (hb : NoRow w b 5) : Dat w' F v l := by
  obtain ⟨g, c, rfl, ho, hF⟩ := h
  exact ⟨g, c, rfl, own_same ho (fun k hk => hg.block k (ho.lt k hk).2 (fun e => own_ne ho hb (hk.trans e))), hF⟩
set_option maxHeartbeats 2000000 in
set_option maxRecDepth 100000 in
theorem trace_calls {w : World} {F : Nat → Prop} {db : Nat} {S : Dev} (h : DiskAt w db S F) (htr : S.trace.length ≤ 1000000) (hbod : S.Bodies) :
    Calls Try.prog 30 #[.pointer (some ⟨db, 0, none⟩)] w fun e w' => ∃ v, e = .returned v ∧ RecsIs w' (fun g => w.heap.size ≤ g) 50 15 v (EvIs w' (fun g => w.heap.size ≤ g)) S.trace ∧ Below w.heap.size w w' := by
  obtain ⟨hlies, ho, hk, mS, mN, vL, vT, hb, hp⟩ := h
  obtain ⟨⟨cs0, hall0, hoT⟩, hTF⟩ := hp.trace
  obtain ⟨AT, cT, hvT⟩ := own_slice hoT
  subst hvT
  have c7 := hb.dev.2.2.2.2.2.2.2
  obtain ⟨n, hn⟩ : ∃ n, n = S.trace.length := ⟨_, rfl⟩
  rw [← hn] at c7 htr
  have HNN := Lib.hid hn
  have HB := Lib.hid hb
  have HA := Lib.hid hall0
  have HO := Lib.hid hoT
  have HBOD := Lib.hid hbod
  clear hoT hall0 hb hp hn hbod
  go_enter Try.func30, Try.ntmps30
  go_wp2_with fail
  go_loopw [3, 11] (fun out i wr => ∃ k : Nat, k ≤ n ∧ i = .int .i64 (k : Int) ∧ RecsIs wr (fun g => w.heap.size ≤ g) 50 15 out (EvIs wr (fun g => w.heap.size ≤ g)) (S.trace.take k) ∧ Below w.heap.size w wr) (fun _ i _ => n - (intOf i).toNat)
  case atStart => exact ⟨0, by omega, rfl, RecsIs.nil _ _ _ _ _, .refl _ _⟩
  case round =>
    obtain ⟨k, hk2, rfl, hrec, hbel⟩ := hrel
    by_cases hlt : k < n
    · have hlt' : (k : Int) < (n : Int) := by omega
      have hk0 : (0 : Int) ≤ (k : Int) := by omega
      have hkl : k < S.trace.length := by rw [← HNN.out]; exact hlt
      obtain ⟨g, cap, hv, hrd⟩ := rec_rd HO.out (ev_len HA.out) (by decide) (k := k) (by rw [← HA.out.len]; exact hkl) HA.out.len.symm
      obtain ⟨c, hc, hhl, bv, hcv, hbody⟩ := HA.out.get k hkl
      injection hv with hA _ hcap
      subst hA hcap
      rw [List.getD_eq_getElem?_getD, hc] at hrd
      simp only [Option.getD_some] at hrd
      have hmem : S.trace[k] ∈ S.trace := List.getElem_mem _
      have htk : S.trace.take (k + 1) = S.trace.take k ++ [S.trace[k]] := by rw [List.take_add_one, List.getElem?_eq_getElem hkl]; rfl
      have HTK := Lib.hid htk
      have hbo := HBOD.out _ hmem
      obtain ⟨e, he⟩ : ∃ e, e = S.trace[k] := ⟨_, rfl⟩
      rw [← he] at hhl hcv hbody hbo
      have HE := Lib.hid he
      clear he hmem htk hc
      obtain ⟨h0, h1, h2, h3, h4, h5, h6, h7, h8, h9, h10, h11, hfit⟩ := list12 e.head hhl
      rw [hfit] at hcv
      subst hcv
      have HHD := Lib.hid hfit
      have HHL := Lib.hid hhl
      have HRD := Lib.hid (show Rd wr (some ⟨g, k * 15, none⟩) [.int .i64 e.kind, .int .i64 e.place, byt h0, byt h1, byt h2, byt h3, byt h4, byt h5, byt h6, byt h7, byt h8, byt h9, byt h10, byt h11, bv] from hrd.below hbel)
      have HREC := Lib.hid hrec
      have HBEL := Lib.hid hbel
      clear hrd hrec hbel hfit hhl c7
      obtain ⟨⟨cs, hall, hown⟩, hF3⟩ := HREC.out
      have hxl : (S.trace.take k).length = k := by rw [List.length_take]; omega
      obtain ⟨A3, c3, hv3⟩ := own_slice hown
      subst hv3
      have hrec' := HREC.out
      rw [hxl] at hrec' hown
      cases hbd : e.body with
      | none =>
        simp only [hbd] at hbody
        subst hbody
        have HBD := Lib.hid hbd
        clear hbd hbo
        have HZ := Lib.hid (show Blk (wr.alloc (.cells #[.int .i64 0, .int .i64 0, .int .u8 0, .int .u8 0, .int .u8 0, .int .u8 0, .int .u8 0, .int .u8 0, .int .u8 0, .int .u8 0, .int .u8 0, .int .u8 0, .int .u8 0, .int .u8 0, .slice none 0 0] 50)) wr.heap.size 50 (ev0 0 0 (.slice none 0 0)) from Blk.new wr 50 (ev0 0 0 (.slice none 0 0)))
        go_wp2_with (first
          | (refine wpList_getRd' rfl 50 (.tmp 13) rfl rfl HRD.out (by simp) Try.underlying50 rfl info50 ?_)
          | (refine wpList_put rfl 50 (.tmp 5) (.tmp 14) rfl rfl rfl (v := .agg #[.int .i64 e.kind, .int .i64 e.place, byt h0, byt h1, byt h2, byt h3, byt h4, byt h5, byt h6, byt h7, byt h8, byt h9, byt h10, byt h11, .slice none 0 0]) HZ.out (vs := [.int .i64 e.kind, .int .i64 e.place, byt h0, byt h1, byt h2, byt h3, byt h4, byt h5, byt h6, byt h7, byt h8, byt h9, byt h10, byt h11, .slice none 0 0]) rfl info50 (by simp [ev0]) (by simp [Value.oneCell', byt]) ?_
             intro w5 hb5 hg5
             rw [lay_all _ _ (by simp [ev0])] at hb5
             have q5 := hb5.cellAt (i := 14) rfl
             have HB5 := Lib.hid hb5
             have HL5 := Lib.hid (((Below.refl wr.heap.size wr).alloc (Nat.le_refl _) _).trans' hg5)
             clear hb5 hg5))
        refine (clone_nil _).mono ?_
        rintro e' w' ⟨rfl, rfl⟩
        clear q5
        have HBX := Lib.hid HB5.out
        have HLX := Lib.hid HL5.out
        have hszx := HLX.out.size
        have hszr := HBEL.out.size
        have hltx := HBX.out.lt
        go_wp2_with (first
          | (refine wpList_put rfl 41 (.tmp 18) (.tmp 17) rfl rfl rfl HBX.out (vs := [.slice none 0 0]) rfl info41 (by simp) (by simp [Value.oneCell']) ?_
             intro w6 hb6 hg6
             rw [lay_one _ _ _ (by simp)] at hb6
             have HB6 := Lib.hid hb6
             have HL6 := Lib.hid (HLX.out.trans' hg6)
             have HG6 := Lib.hid hg6
             have hown6 := own_same hown (fun g hg => HL6.out.block g (hown.lt g hg).2)
             have hsz6 := HL6.out.size
             clear hb6 hg6)
          | (refine wpList_getAll rfl 50 (.tmp 5) rfl rfl HB6.out Try.underlying50 rfl info50 rfl ?_)
          | (at_builtin; refine wpList_appAny S46 rfl (.tmp 19) (.tmp 21) rfl rfl rfl (hown6.alloc _) (Blk.new w6 50 [.int .i64 e.kind, .int .i64 e.place, byt h0, byt h1, byt h2, byt h3, byt h4, byt h5, byt h6, byt h7, byt h8, byt h9, byt h10, byt h11, .slice none 0 0]).rdAll rfl (by simp [Value.oneCell', byt]) (by omega) (by unfold maxLen; omega) (by simp) ?_
             intro v7 w7 own7 hg7 hl7))
        go_roundw
        case rel => exact ⟨k + 1, by omega, by go_num, by rw [HTK.out, ← HE.out]; exact (traced hrec' hall (by rw [hxl]; exact hown) HL6.out ⟨HHL.out, .slice none 0 0, by rw [HHD.out], by rw [HBD.out]⟩ (by rw [hxl]; exact own7) hg7 hl7 (by omega)).1, (traced hrec' hall (by rw [hxl]; exact hown) HL6.out ⟨HHL.out, .slice none 0 0, by rw [HHD.out], by rw [HBD.out]⟩ (by rw [hxl]; exact own7) hg7 hl7 (by omega)).2 HBEL.out⟩
        case measure => simp [intOf]; omega
      | some l =>
        simp only [hbd] at hbody
        obtain ⟨gv, cv, rfl, hov, hFv⟩ := hbody
        obtain ⟨hl0, hl1⟩ := hbo l hbd
        have hrv : Rd w (some ⟨gv, 0, none⟩) (bs l) := .of_own hov
        have HRV := Lib.hid (hrv.below HBEL.out)
        have HBD := Lib.hid hbd
        clear hbd hbo hov hrv
        have HZ := Lib.hid (show Blk (wr.alloc (.cells #[.int .i64 0, .int .i64 0, .int .u8 0, .int .u8 0, .int .u8 0, .int .u8 0, .int .u8 0, .int .u8 0, .int .u8 0, .int .u8 0, .int .u8 0, .int .u8 0, .int .u8 0, .int .u8 0, .slice none 0 0] 50)) wr.heap.size 50 (ev0 0 0 (.slice none 0 0)) from Blk.new wr 50 (ev0 0 0 (.slice none 0 0)))
        go_wp2_with (first
          | (refine wpList_getRd' rfl 50 (.tmp 13) rfl rfl HRD.out (by simp) Try.underlying50 rfl info50 ?_)
          | (refine wpList_put rfl 50 (.tmp 5) (.tmp 14) rfl rfl rfl (v := .agg #[.int .i64 e.kind, .int .i64 e.place, byt h0, byt h1, byt h2, byt h3, byt h4, byt h5, byt h6, byt h7, byt h8, byt h9, byt h10, byt h11, .slice (some ⟨gv, 0, none⟩) l.length cv]) HZ.out (vs := [.int .i64 e.kind, .int .i64 e.place, byt h0, byt h1, byt h2, byt h3, byt h4, byt h5, byt h6, byt h7, byt h8, byt h9, byt h10, byt h11, .slice (some ⟨gv, 0, none⟩) l.length cv]) rfl info50 (by simp [ev0]) (by simp [Value.oneCell', byt]) ?_
             intro w5 hb5 hg5
             rw [lay_all _ _ (by simp [ev0])] at hb5
             have q5 := hb5.cellAt (i := 14) rfl
             have HB5 := Lib.hid hb5
             have HL5 := Lib.hid (((Below.refl wr.heap.size wr).alloc (Nat.le_refl _) _).trans' hg5)
             clear hb5 hg5))
        refine (clone_any gv 0 cv l l.length rfl (by omega) _ (HRV.out.below HL5.out) hl0 w.heap.size (Nat.le_trans HBEL.out.size HL5.out.size)).mono ?_
        rintro e' w' ⟨v', rfl, hdn, hbn⟩
        clear q5
        have HBX := Lib.hid (HB5.out.below hbn HB5.out.lt)
        have HLX := Lib.hid (HL5.out.trans (hbn.mono HL5.out.size))
        obtain ⟨gn, cn, rfl, hon, hFn⟩ := hdn
        have HDN := Lib.hid (show Dat w' (fun g => w.heap.size ≤ g) (.slice (some ⟨gn, 0, none⟩) l.length cn) l from ⟨gn, cn, rfl, hon, hFn⟩)
        have HNX := Lib.hid (show NoRow w' wr.heap.size 5 from NoRow.of HBX.out (by decide))
        clear hbn hon hFn
        have hszx := HLX.out.size
        have hszr := HBEL.out.size
        have hltx := HBX.out.lt
        go_wp2_with (first
          | (refine wpList_put rfl 41 (.tmp 18) (.tmp 17) rfl rfl rfl HBX.out (vs := [.slice (some ⟨gn, 0, none⟩) l.length cn]) rfl info41 (by simp) (by simp [Value.oneCell']) ?_
             intro w6 hb6 hg6
             rw [lay_one _ _ _ (by simp)] at hb6
             have HB6 := Lib.hid hb6
             have HL6 := Lib.hid (HLX.out.trans' hg6)
             have HG6 := Lib.hid hg6
             have hown6 := own_same hown (fun g hg => HL6.out.block g (hown.lt g hg).2)
             have hsz6 := HL6.out.size
             clear hb6 hg6)
          | (refine wpList_getAll rfl 50 (.tmp 5) rfl rfl HB6.out Try.underlying50 rfl info50 rfl ?_)
          | (at_builtin; refine wpList_appAny S46 rfl (.tmp 19) (.tmp 21) rfl rfl rfl (hown6.alloc _) (Blk.new w6 50 [.int .i64 e.kind, .int .i64 e.place, byt h0, byt h1, byt h2, byt h3, byt h4, byt h5, byt h6, byt h7, byt h8, byt h9, byt h10, byt h11, .slice (some ⟨gn, 0, none⟩) l.length cn]).rdAll rfl (by simp [Value.oneCell', byt]) (by omega) (by unfold maxLen; omega) (by simp) ?_
             intro v7 w7 own7 hg7 hl7))
        go_roundw
        case rel => exact ⟨k + 1, by omega, by go_num, by rw [HTK.out, ← HE.out]; exact (traced hrec' hall (by rw [hxl]; exact hown) HL6.out ⟨HHL.out, .slice (some ⟨gn, 0, none⟩) l.length cn, by rw [HHD.out], by rw [HBD.out]; exact HDN.out.grown HG6.out HNX.out⟩ (by rw [hxl]; exact own7) hg7 hl7 (by omega)).1, (traced hrec' hall (by rw [hxl]; exact hown) HL6.out ⟨HHL.out, .slice (some ⟨gn, 0, none⟩) l.length cn, by rw [HHD.out], by rw [HBD.out]; exact HDN.out.grown HG6.out HNX.out⟩ (by rw [hxl]; exact own7) hg7 hl7 (by omega)).2 HBEL.out⟩
        case measure => simp [intOf]; omega
    · have hlt' : ¬ (k : Int) < (n : Int) := by omega
      have hkn : k = n := by omega
      subst hkn
      have htk : S.trace.take k = S.trace := by rw [HNN.out]; exact List.take_length
      rw [htk] at hrec
      go_wp2_with fail
      go_ret
      exact ⟨_, rfl, hrec, hbel⟩
end Go.Proofs.Ytbdnoiaglighhaa
