/- The walk of package disk's Write. No statement is proved here. -/
import Derived.Test.YtbdnoiaglighhaaDevR
namespace Go.Proofs.Ytbdnoiaglighhaa
set_option linter.unusedVariables false
set_option linter.unusedSimpArgs false
open Go.RowKit Go.Maps

theorem S100 : SliceOf Try.prog 100 105 (.agg #[.int .i64 0, .slice none 0 0]) 2 32 := ⟨by kernel_rfl, by kernel_rfl, rfl, by decide⟩
theorem info100 : (Try.prog.info? 100).map (·.size) = some 1 := by kernel_rfl
section
variable {w w' w2 : World} {F F' F2 : Nat → Prop} {db : Nat} {S S' S2 : Dev}
theorem own_ne {e : TypeId} {size n base : Nat} {v : Value} {xs : List Value} (h : w.ownsRow base e size v n xs) {b : Nat} (hn : NoRow w b e) : v.ownBlock ≠ some b := fun hb => by
  rcases h.2 with ⟨hv, _⟩ | ⟨g', cap, cur, hv, _, hh, _⟩
  · rw [hv] at hb; cases hb
  · rw [hv] at hb; cases hb; exact hn _ hh
theorem own_norow {e t : TypeId} {size n base : Nat} {v : Value} {xs : List Value} (h : w.ownsRow base e size v n xs) {b : Nat} (hb : v.ownBlock = some b) (ht : e ≠ t) : NoRow w b t := by
  rcases h.2 with ⟨hv, _⟩ | ⟨g', cap, cur, hv, _, hh, _⟩
  · rw [hv] at hb; cases hb
  · rw [hv] at hb; cases hb; exact .of hh ht
/-- A store into the map of what stands there now. -/
theorem Parts.storeNow {mS mN : Nat} {vL vT v : Value} {l : List UInt8} {x : Int} (hl : Lies F w) (hk : S.Ok) (hp : Parts w F S mS mN vL vT) (hx : S.has x) (hv : Dat w F v l) (hlen : l.length = S.size) :
    ∃ w', (Instr.mapUpdate 99 (.map (some mN)) (.int .i64 x) v).run Try.prog w = .ok () w' ∧ Parts w' F { S with now := upd S.now x l } mS mN vL vT ∧ w.grownBy w' (some mN) ∧ NoRow w mN 5 ∧ NoRow w mN 102 := by
  obtain ⟨w', hrun, hm, hg⟩ := hp.now.store hk.blocks hx.1 hx.2 hv hlen
  obtain ⟨_, D, ho, _⟩ := hp.now
  have hs := SameBut.grown hl hg
  exact ⟨w', hrun, ⟨hp.stable.but hs (.map ho 5) hp.apart, hm, hp.loose.but (fun _ _ h => h.but hs (.map ho 5)) hs (.map ho 105), hp.trace.but (fun _ _ h => h.but hs (.map ho 5)) hs (.map ho 50), hp.apart⟩, hg, .map ho 5, .map ho 102⟩
/-- .. of what was flushed. -/
theorem Parts.storeStable {mS mN : Nat} {vL vT v : Value} {l : List UInt8} {x : Int} (hl : Lies F w) (hk : S.Ok) (hp : Parts w F S mS mN vL vT) (hx : S.has x) (hv : Dat w F v l) (hlen : l.length = S.size) :
    ∃ w', (Instr.mapUpdate 99 (.map (some mS)) (.int .i64 x) v).run Try.prog w = .ok () w' ∧ Parts w' F { S with stable := upd S.stable x l } mS mN vL vT ∧ w.grownBy w' (some mS) ∧ NoRow w mS 5 ∧ NoRow w mS 102 ∧ NoRow w mS 105 := by
  obtain ⟨w', hrun, hm, hg⟩ := hp.stable.store hk.blocks hx.1 hx.2 hv hlen
  obtain ⟨_, D, ho, _⟩ := hp.stable
  have hs := SameBut.grown hl hg
  exact ⟨w', hrun, ⟨hm, hp.now.but hs (.map ho 5) hp.apart.symm, hp.loose.but (fun _ _ h => h.but hs (.map ho 5)) hs (.map ho 105), hp.trace.but (fun _ _ h => h.but hs (.map ho 5)) hs (.map ho 50), hp.apart⟩, hg, .map ho 5, .map ho 102, .map ho 105⟩
/-- What was written, kept among what was not flushed: from the walk's facts to the device. -/
theorem loosed {w w2 w3 w4 : World} {mS mN : Nat} {vL vT v' bv : Value} {x : Int} {l : List UInt8} {cs : List (List Value)}
    (hl : Lies F w) (ho : F db) (hk : S.Ok) (hb : Blk w db 102 (devCells S mS mN vL vT)) (hp : Parts w F S mS mN vL vT) (hx : S.has x) (hd : Dat w F bv l) (hlen : l.length = S.size)
    (h2 : Below w.heap.size w w2) (ha : All2 (LwIs w F S.blocks S.size) S.loose cs) (h3 : w3.ownsRow 0 105 2 v' (S.loose.length + 1) (cs.flatten ++ [.int .i64 x, bv])) (hg3 : w2.grownBy w3 vL.ownBlock) (hloc : v'.ownBlock = vL.ownBlock ∨ v'.ownBlock = some w2.heap.size)
    (h4 : Blk w4 db 102 ((devCells S mS mN vL vT).set 4 v')) (hg4 : w3.grownBy w4 (some db)) : ∃ F', Calls1 db { S with loose := S.loose ++ [(x, l)] } F w w4 F' := by
  obtain ⟨⟨cs', hcs', hoL⟩, hLF⟩ := hp.loose
  have hdbL : vL.ownBlock ≠ some db := own_ne hoL (NoRow.of hb (by decide))
  have hturn : ∀ g, g < w.heap.size → g ≠ db → vL.ownBlock ≠ some g → w4.heap[g]? = w.heap[g]? := fun g hg hne hT =>
    (hg4.block g (by have := hg3.size; have := h2.size; omega) (fun e => hne (Option.some.inj e))).trans ((hg3.block g (by have := h2.size; omega) (fun e => hT e.symm)).trans (h2.block g hg))
  have hsz : w.heap.size ≤ w4.heap.size := Nat.le_trans h2.size (Nat.le_trans hg3.size hg4.size)
  let F' : Nat → Prop := fun g => F g ∨ v'.ownBlock = some g
  have h5 : ∀ {u : Value} {l : List UInt8}, Dat w F u l → Dat w4 F' u l := fun hd => by
    obtain ⟨g1, c1, rfl, ho2, hF1⟩ := hd
    refine ⟨g1, c1, rfl, own_same ho2 (fun k hk => ?_), .inl hF1⟩
    cases hk
    refine hturn _ (hl _ hF1) (fun e => ?_) (fun e => ?_)
    · subst e; exact own_ne ho2 (NoRow.of hb (by decide)) rfl
    · exact own_ne ho2 (own_norow hoL e (by decide)) rfl
  have hmap : ∀ {m : Nat} {f : Int → Option (List UInt8)}, MapIs w F m S.blocks S.size f → MapIs w4 F' m S.blocks S.size f := fun {m f} hm => by
    obtain ⟨hF, D, hom, hkk, hf⟩ := hm
    refine ⟨.inl hF, D, ownsMap_same hom (hturn m (hl m hF) (fun e => ?_) (fun e => ?_)), hkk, fun x h0 h1 => ?_⟩
    · subst e; exact NoRow.map hom 102 _ hb
    · exact own_ne hoL (NoRow.map hom 105) e
    · have := hf x h0 h1
      cases hx : f x with
      | none => simp only [hx] at this ⊢; exact this
      | some l =>
        simp only [hx] at this ⊢
        obtain ⟨h1, h2, v, h3, h4⟩ := this
        exact ⟨h1, h2, v, h5 h3, h4⟩
  have hdb4 : v'.ownBlock ≠ some db := fun e => by
    rcases hloc with h | h
    · exact hdbL (h ▸ e)
    · rw [h] at e; have := Option.some.inj e; have := hl db ho; have := h2.size; omega
  refine ⟨F', ⟨?_, .inl ho, ⟨hk.blocks, hk.size, hk.pos, hk.after⟩, mS, mN, v', vT, h4, ?_⟩, fun g hg => .inl hg, fun g hg => ?_, ?_⟩
  · intro g hg
    rcases hg with hg | hg
    · have := hl g hg; omega
    · have := (h3.lt g hg).2
      have := hg4.size
      omega
  · refine ⟨hmap hp.stable, hmap hp.now, ?_, ?_, hp.apart⟩
    · refine ⟨⟨cs ++ [[.int .i64 x, bv]], All2.snoc (ha.imp fun p c hc => ?_) ⟨hx.1, hx.2, hlen, bv, rfl, h5 hd⟩, ?_⟩, fun g hg => .inr hg⟩
      · obtain ⟨a1, a2, a3, u, a4, a5⟩ := hc
        exact ⟨a1, a2, a3, u, a4, h5 a5⟩
      · have e : (cs ++ [[.int .i64 x, bv]]).flatten = cs.flatten ++ [.int .i64 x, bv] := by simp
        rw [e]
        have hlen : ({ S with loose := S.loose ++ [(x, l)] } : Dev).loose.length = S.loose.length + 1 := by simp
        rw [hlen]
        exact own_same h3 (fun g hg => hg4.block g (h3.lt g hg).2 (fun e => hdb4 (hg.trans e)))
    · obtain ⟨⟨ls, hall, hol⟩, hTF⟩ := hp.trace
      refine ⟨⟨ls, hall.imp (fun e c hc => ?_), own_same hol (fun g hg => ?_)⟩, fun g hg => .inl (hTF g hg)⟩
      · obtain ⟨a1, u, a2, a3⟩ := hc
        refine ⟨a1, u, a2, ?_⟩
        cases hx : e.body with
        | none => simpa [hx] using a3
        | some l => simp only [hx] at a3 ⊢; exact h5 a3
      · refine hturn g (hl g (hTF g hg)) (fun e => ?_) (fun e => ?_)
        · subst e; exact own_ne hol (NoRow.of hb (by decide)) hg
        · exact own_ne hol (own_norow hoL e (by decide)) hg
  · rcases hg with hg | hg
    · exact .inl hg
    · rcases hloc with h | h
      · exact .inl (hLF g (h ▸ hg))
      · rw [h] at hg; have := Option.some.inj hg; have := h2.size; exact .inr (by omega)
  · exact ⟨hg4.os.trans (hg3.os.trans h2.os), hg4.tape.trans (hg3.tape.trans h2.tape), hg4.output.trans (hg3.output.trans h2.output), hsz, fun g hg hn => hturn g hg (fun e => hn (e ▸ ho)) (fun e => hn (hLF g e))⟩
theorem Calls1.add (h : Calls1 db S' F w w' F') {g : Nat} (h1 : w.heap.size ≤ g) (h2 : g < w'.heap.size) : Calls1 db S' F w w' (fun k => F' k ∨ k = g) :=
  ⟨h.1.sub (fun _ hk => .inl hk) (fun k hk => hk.elim (h.1.lies k) (fun e => e ▸ h2)), fun k hk => .inl (h.2.1 k hk), fun k hk => hk.elim (h.2.2.1 k) (fun e => .inr (e ▸ h1)), h.2.2.2⟩
theorem Dat.of_blk {g : Nat} {l : List UInt8} (h : Blk w g 5 (bs l)) (hF : F g) (hl : l.length ≤ 60000) : Dat w F (.slice (some ⟨g, 0, none⟩) l.length l.length) l :=
  ⟨g, l.length, rfl, ⟨by simp, .inr ⟨g, l.length, (bs l).toArray, rfl, Nat.zero_le _, h, Nat.le_refl _, by unfold maxLen; omega, by simp, by simp [List.take_of_length_le]⟩⟩, hF⟩
set_option maxHeartbeats 1000000 in
set_option maxRecDepth 100000 in
theorem write_any (h : DiskAt w db S F) (hl : S.live) (htr : S.trace.length ≤ 1000000) (hlo : S.loose.length ≤ 1000000) (x : Int) (A : Option Addr) (n c : Nat) (b : List UInt8) (hb : b.length = n) (hr : Rd w A (bs b)) (hAF : ∀ a, A = some a → 0 < b.length → ¬ F a.block) :
    Calls Try.prog 26 #[.pointer (some ⟨db, 0, none⟩), .int .i64 x, .slice A n c] w fun e w' => e = .returned (.tuple #[]) ∧ ∃ F', Calls1 db (S.write x b) F w w' F' := by
  have HD := Lib.hid h
  have HN := Lib.hid hb
  have HR := Lib.hid hr
  clear h hb hr
  go_enter Try.func26, Try.ntmps26
  go_wp2_with fail
  refine (count_calls HD.out hl).mono ?_
  rintro e w1 ⟨rfl, hC⟩
  have HC := Lib.hid hC
  obtain ⟨hlies, ho, hk, mS, mN, vL, vT, hb, hp⟩ := hC.disk
  have c1 : w1.cell? ⟨db, 1, none⟩ = some (.int .i64 (S.size : Int)) := hb.dev.2.1
  have hmk := make_bytes S.size hk.size
  obtain ⟨O, hO⟩ : ∃ O : Obj, O = .cells (bs (List.replicate S.size 0)).toArray 5 := ⟨_, rfl⟩
  rw [← hO] at hmk
  have HB1 := Lib.hid (show Blk (w1.alloc O) w1.heap.size 5 (bs (List.replicate S.size 0)) by rw [hO]; exact Blk.new w1 5 _)
  have HE1 := Lib.hid ((Below.refl w1.heap.size w1).alloc (Nat.le_refl _) O)
  have hrd1 : Rd w1 A (bs b) := by
    cases A with
    | none =>
      intro h0
      obtain ⟨b', o', hA, _⟩ := HR.out h0
      cases hA
    | some a =>
      intro h0
      obtain ⟨b', o', hA, _⟩ := HR.out h0
      cases hA
      exact HC.out.rd HR.out (hAF _ rfl (by simpa using h0)) h0
  have HR1 := Lib.hid (hrd1.below HE1.out)
  clear hb hp hC hO hrd1
  go_wp2_with (first
    | (refine wpList_copyAt rfl (.tmp 14) (.tmp 15) 41 41 5 rfl Try.underlying41 info5 (l := b) rfl rfl HR1.out HN.out HB1.out (by rw [bs_length, List.length_replicate, List.length_take]; show 0 + min S.size b.length ≤ S.size; omega) ?_; intro w2 hb2 hg2; rw [lay_fit] at hb2; have HB2 := Lib.hid hb2; have HE2 := Lib.hid (HE1.out.trans' hg2); clear hb2 hg2))
  refine (clone_calls w1.heap.size 0 S.size (fit S.size b) S.size (fit_length _ _) hk.pos (by have := hk.size; show S.tick.size ≤ _; omega) w2 HB2.out.rdAll).mono ?_
  rintro e w3 ⟨g', c', rfl, hown, hbel⟩
  have hg' := hown.lt g' rfl
  have hsz12 := HE2.out.size
  have hlt2 := HB2.out.lt
  have hc3 : Calls1 db S.tick F w w3 (fun k => F k ∨ k = g') := (HC.out.trans (.below HC.out.disk (HE2.out.trans (hbel.mono HE2.out.size)))).add (by have := HC.out.2.2.2.size; omega) hg'.2
  have hdat : Dat w3 (fun k => F k ∨ k = g') (.slice (some ⟨g', 0, none⟩) S.size c') (fit S.size b) := by
    refine ⟨g', c', by rw [fit_length], ?_, .inr rfl⟩
    rw [fit_length]
    exact Joins.ownsRow_le hown (Nat.zero_le _)
  have HC3 := Lib.hid hc3
  have HDAT := Lib.hid hdat
  have HB3 := Lib.hid (HB2.out.below hbel hlt2)
  have hout : ¬ (F w1.heap.size ∨ w1.heap.size = g') := fun h => h.elim (fun h => by have := hlies _ h; omega) (fun h => by omega)
  clear hc3 hdat hown hbel
  go_wp2_with fail
  refine (note_calls HC3.out.disk 2 x (some ⟨w1.heap.size, 0, none⟩) S.size S.size (fit S.size b) (fit_length _ _) (Nat.le_refl _) HB3.out.rdAll (some (fit S.size b)) (.slice (some ⟨g', 0, none⟩) S.size c') HDAT.out htr).mono ?_
  rintro e w4 ⟨rfl, F2, hN⟩
  have HB4 := Lib.hid (hN.blk HB3.out hout)
  have hout4 : ¬ F2 w1.heap.size := hN.out hout HB3.out.lt
  have HC4 := Lib.hid (HC3.out.trans hN)
  obtain ⟨hlies4, ho4, hk4, mS4, mN4, vL4, vT4, hb4, hp4⟩ := hN.disk
  have HD4 := Lib.hid hb4
  have HP4 := Lib.hid hp4
  clear hN hb4 hp4 HB2 HB3 HDAT
  have c3 : w4.cell? ⟨db, 3, none⟩ = some (.map (some mN4)) := HD4.out.dev.2.2.2.1
  go_wp2_with fail
  refine (dhas_calls HD4.out x).mono ?_
  rintro e w' ⟨rfl, rfl⟩
  by_cases hx : S.has x
  · have hd : decide ((S.tick.note 2 x (fit S.size b) (some (fit S.size b))).has x) = true := decide_eq_true hx
    rw [hd]
    have HX := Lib.hid hx
    have e0 : S.write x b = { ({ (S.tick.note 2 x (fit S.size b) (some (fit S.size b))) with now := upd S.now x (fit S.size b) } : Dev) with loose := S.loose ++ [(x, fit S.size b)] } := by
      unfold Dev.write
      simp only [if_pos hx]
    have HE0 := Lib.hid e0
    clear e0
    have hlt4 := HB4.out.lt
    have hw04 := HC4.out.2.2.2.size
    have hsz1 := HC.out.2.2.2.size
    have hc4 : Calls1 db (S.tick.note 2 x (fit S.size b) (some (fit S.size b))) F w w4 (fun k => F2 k ∨ k = w1.heap.size) := HC4.out.add hsz1 hlt4
    have hdat : Dat w4 (fun k => F2 k ∨ k = w1.heap.size) (.slice (some ⟨w1.heap.size, 0, none⟩) S.size S.size) (fit S.size b) := by
      have := Dat.of_blk (F := fun k => F2 k ∨ k = w1.heap.size) HB4.out (.inr rfl) (by rw [fit_length]; have := hk.size; show S.size ≤ 60000; exact this)
      rw [fit_length] at this
      exact this
    obtain ⟨w5, hrun, hp5, hg5, n5, n102⟩ := Parts.storeNow hc4.disk.lies hk4 (HP4.out.sub fun g hg => .inl hg) hx hdat (fit_length _ _)
    have hF5 : (fun k => F2 k ∨ k = w1.heap.size) mN4 := (HP4.out.sub (G := fun k => F2 k ∨ k = w1.heap.size) fun g hg => .inl hg).now.1
    have hnedb : some db ≠ some mN4 := fun e => n102 _ (by have := Option.some.inj e; subst this; exact HD4.out)
    have hb5 : Blk w5 db 102 (devCells (S.tick.note 2 x (fit S.size b) (some (fit S.size b))) mS4 mN4 vL4 vT4) := (hg5.block db HD4.out.lt hnedb).trans HD4.out
    have hc5 : Calls1 db ({ (S.tick.note 2 x (fit S.size b) (some (fit S.size b))) with now := upd S.now x (fit S.size b) } : Dev) F w w5 (fun k => F2 k ∨ k = w1.heap.size) :=
      hc4.trans ⟨⟨hc4.disk.lies.mono hg5.size, hc4.disk.own, ⟨hk4.blocks, hk4.size, hk4.pos, hk4.after⟩, mS4, mN4, vL4, vT4, hb5, hp5⟩, fun _ h => h, fun _ h => .inl h, .of_grown hg5 hF5⟩
    have HC5 := Lib.hid hc5
    have hdat5 : Dat w5 (fun k => F2 k ∨ k = w1.heap.size) (.slice (some ⟨w1.heap.size, 0, none⟩) S.size S.size) (fit S.size b) := hdat.but (.grown hc4.disk.lies hg5) n5
    have HDAT5 := Lib.hid hdat5
    have HP5 := Lib.hid hp5
    have HB5 := Lib.hid hb5
    have c4 : w5.cell? ⟨db, 4, none⟩ = some vL4 := hb5.dev.2.2.2.2.1
    obtain ⟨⟨cs, hall, hoL⟩, hLF⟩ := hp5.loose
    have HA := Lib.hid hall
    obtain ⟨AL, cL, hvL⟩ := own_slice hoL
    subst hvL
    have HOL := Lib.hid hoL
    have hdb5 : db < w5.heap.size := hb5.lt
    have hrowlt : ∀ g, (Value.slice AL S.loose.length cL).ownBlock = some g → g < w5.heap.size := fun g hg => hc5.disk.lies g (hLF g hg)
    have hneL : some db ≠ (Value.slice AL S.loose.length cL).ownBlock := fun e => own_ne hoL (NoRow.of hb5 (by decide)) e.symm
    clear hc4 hdat hp5 hg5 hb5 hc5 hdat5 hall hoL n5 n102 hnedb hF5 hx
    go_wp2_with (first
      | (at_builtin; refine wpList_appAny S100 rfl (.tmp 37) (.tmp 41) rfl rfl rfl (HOL.out.alloc _) (Blk.new w5 105 [.int .i64 x, .slice (some ⟨w1.heap.size, 0, none⟩) S.size S.size]).rdAll rfl (by simp [Value.oneCell']) (by show (S.loose.length + 1) * 32 ≤ _; omega) (by show S.loose.length + 1 ≤ _; unfold maxLen; omega) (by simp) ?_
         intro v6 w6 own6 hg6 hl6
         obtain ⟨A6, c6, hv6⟩ := own_slice own6
         subst hv6
         have hd6 := (HB5.out.alloc (.cells #[.int .i64 x, .slice (some ⟨w1.heap.size, 0, none⟩) S.size S.size] 105)).grown hg6 hneL)
      | (refine wpList_put rfl 100 (.tmp 44) (.tmp 42) rfl rfl rfl hd6 (vs := [.slice A6 (S.loose.length + 1) c6]) rfl info100 (by simp [devCells]) (by simp [Value.oneCell']) ?_
         intro w7 hb7 hg7
         rw [lay_one _ _ _ (by simp [devCells])] at hb7))
    go_end0
    rw [HE0.out]
    refine ⟨rfl, ?_⟩
    obtain ⟨F', hF'⟩ := loosed (S := { (S.tick.note 2 x (fit S.size b) (some (fit S.size b))) with now := upd S.now x (fit S.size b) }) HC5.out.disk.lies HC5.out.disk.own ⟨hk4.blocks, hk4.size, hk4.pos, hk4.after⟩ HB5.out HP5.out HX.out HDAT5.out (fit_length _ _) ((Below.refl w5.heap.size w5).alloc (Nat.le_refl _) _) HA.out own6 hg6 hl6 hb7 hg7
    exact ⟨F', HC5.out.trans hF'⟩
  · have hd : decide ((S.tick.note 2 x (fit S.size b) (some (fit S.size b))).has x) = false := decide_eq_false hx
    rw [hd]
    have e0 : S.write x b = S.tick.note 2 x (fit S.size b) (some (fit S.size b)) := by
      unfold Dev.write
      simp only [if_neg hx]
    have HE0 := Lib.hid e0
    clear e0
    go_wp2_with fail
    refine bodyPost_ret (results_none rfl _ _ _) rfl ?_
    exact ⟨rfl, F2, HE0.out ▸ HC4.out⟩
theorem write_calls (h : DiskAt w db S F) (hl : S.live) (htr : S.trace.length ≤ 1000000) (hlo : S.loose.length ≤ 1000000) (x : Int) (A : Option Addr) (n c : Nat) (b : List UInt8) (hb : b.length = n) (hr : Rd w A (bs b)) (hAF : ∀ a, A = some a → ¬ F a.block) :
    Calls Try.prog 26 #[.pointer (some ⟨db, 0, none⟩), .int .i64 x, .slice A n c] w fun e w' => e = .returned (.tuple #[]) ∧ ∃ F', Calls1 db (S.write x b) F w w' F' := write_any h hl htr hlo x A n c b hb hr (fun a ha _ => hAF a ha)
end
end Go.Proofs.Ytbdnoiaglighhaa
