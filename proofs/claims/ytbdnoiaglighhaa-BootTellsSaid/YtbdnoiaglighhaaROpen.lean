/- The walk of the reference's Open. No statement is proved here. -/
import Derived.Test.YtbdnoiaglighhaaOpen
namespace Go.Proofs.Ytbdnoiaglighhaa
set_option linter.unusedVariables false
set_option linter.unusedSimpArgs false
open Go.RowKit

section
variable {P : Program} {ops : Array Oper} {w : World} {A : Option Addr} {xs news : List Value}
/-- As 'wpStores_turn', for an operation that has a guard and is wanted. -/
theorem wpStores_turnG {C : World → Prop} {K : Act → World → Prop} {i : Nat} {rest : List Nat} {a : Act} {w w' : World} {o : Oper} {v : Value} (ho : ops[i]? = some o) (hw : Region.wanted o (yielded ops a.tmps) = true)
    (hrun : (execOp a.eval o).run P w = .ok (.value v) w') (hC : C w') (h : wpStores P ops C K rest (a.put o.dst v) w') : wpStores P ops C K (i :: rest) a w := by
  intro o' ho'
  obtain rfl : o' = o := Option.some.inj (ho'.symm.trans ho)
  exact .inl ⟨hw, .inl ⟨v, w', hrun, hC, h⟩⟩
theorem wpStores_appG {C : World → Prop} {K : Act → World → Prop} {i : Nat} {rest : List Nat} {a : Act} {o : Oper} {t e : TypeId} {z : Value} {size bytes : Nat} (S : SliceOf P t e z size bytes)
    (hoi : ops[i]? = some o) (hw : Region.wanted o (yielded ops a.tmps) = true) (s x : Operand) (ho : o.op = .call { callee := .builtin .append, args := #[s, x], argTypes := #[t, t] })
    {base : Nat} {v : Value} {n : Nat} (hs : a.eval s = v) {m c : Nat} (hx : a.eval x = .slice A m c)
    (hown : w.ownsRow base e size v n xs) (hr : Rd w A news) (hm : news.length = m * size) (h1 : ∀ u ∈ news, u.oneCell' = true) (hbytes : (n + m) * bytes ≤ 140737488355328) (h63 : n + m ≤ maxLen) (hbase : base ≤ w.heap.size)
    (h : ∀ v' w', w'.ownsRow base e size v' (n + m) (xs ++ news) → w.grownBy w' v.ownBlock → (v'.ownBlock = v.ownBlock ∨ v'.ownBlock = some w.heap.size) → C w' ∧ wpStores P ops C K rest (a.put o.dst v') w') :
    wpStores P ops C K (i :: rest) a w := by
  obtain ⟨v', w', hrun, h2, h3, h4⟩ := run_appAny (P := P) (ty := o.type) S hown c hr hm h1 hbytes h63 hbase
  have hw2 := h v' w' h2 h3 h4
  refine wpStores_turnG hoi hw (v := v') (w' := w') ?_ hw2.1 hw2.2
  unfold execOp
  simp only [ho, resolve, invoke, builtin, Sem.run_bind, Sem.run_pure, Result.andThen_ok, List.map_toArray, List.map_cons, List.map_nil, hs, hx, hrun]
end
theorem sum_iff (z : List UInt8) (hz : z.length = 8) (S : Nat) (hS : S < 18446744073709551616) : getB z = S ↔ putB S 8 = z := by
  constructor
  · rintro rfl
    have := putB_getB z
    rwa [hz] at this
  · rintro rfl
    rw [getB_putB]
    exact Nat.mod_eq_of_lt hS
theorem sl_from {P : Program} {t e : TypeId} (hu : P.underlying t = some (.slice e)) (hs : (P.info? e).map (·.size) = some 1) (b : Option Addr) (n c k : Nat) (L : Int) (hL : L = k) (hk : k < n) (hn : n ≤ c) (W : World) :
    (Instr.slice t (.slice b n c) (some (.int .i64 L)) none none).run P W = .ok (.slice (b.map (·.add k)) (n - k) (c - k)) W := by
  subst hL
  have he : P.elem t = e := by simp [Program.elem, hu]
  have hsz : (sizeOf (P.elem t)).run P W = .ok 1 W := by
    rw [he]
    cases hi : P.info? e with
    | none => simp [hi] at hs
    | some i =>
      have : i.size = 1 := by simpa [hi] using hs
      simp [sizeOf, typeInfo, hi, this]
  rw [run_slice_l (ht := by rw [he]; exact hu) (h0 := by omega) (h1 := by omega), hsz]
  simp [sliced, show ¬ c = k by omega]

set_option maxHeartbeats 1000000 in
set_option maxRecDepth 100000 in
theorem ropen_calls (key : List UInt8) (hk : key.length = 32) (raw : List UInt8) (A : Option Addr) (n c : Nat) (hn : raw.length = n) (hc : n ≤ c) (hs : n ≤ 60000) (w : World) (hr : Rd w A (bs raw)) :
    Calls Try.prog 35 #[.agg (bs key).toArray, .slice A n c] w (Opened key raw w) := by
  have HK := Lib.hid hk
  have HN := Lib.hid hn
  have HR := Lib.hid hr
  clear hk hn hr
  generalize hX : bs key = X at *
  have HX := Lib.hid hX
  clear hX
  by_cases hq : n < 22
  · go_enter Try.func35, Try.ntmps35
    go_wp2_with fail
    ((try simp only [Exit.inBlock, Exit.then]); refine bodyPost_ret (results_tmp4 rfl _ _ _) rfl ?_)
    exact .inr ⟨by unfold openB; rw [if_pos (by rw [HN.out]; exact hq)], rfl, (Below.refl w.heap.size w).alloc (Nat.le_refl _) (.cells X.toArray 58)⟩
  have hH : (raw.take 12).length = 12 := by rw [List.length_take, HN.out]; omega
  have b0 := (Blk.new w 58 X).alloc (.cells noughts12.toArray 48)
  have hbel := ((Below.refl w.heap.size w).alloc (Nat.le_refl _) (.cells X.toArray 58)).alloc (by simp) (.cells noughts12.toArray 48)
  have hP := Blk.new (w.alloc (.cells X.toArray 58)) 48 noughts12
  rw [World.size_alloc] at hP
  have hRH := rd_to (HR.out.alloc (.cells X.toArray 58)) 12
  obtain ⟨h, hh⟩ : ∃ h, h = raw.take 12 := ⟨_, rfl⟩
  rw [← hh] at hH hRH
  have hHb : (bs h).length = 12 := by rw [bs_length, hH]
  have B0 := Lib.hid b0
  have BB := Lib.hid hbel
  have HP := Lib.hid hP
  have Hh := Lib.hid hh
  have HH := Lib.hid hH
  have HHb := Lib.hid hHb
  have RH := Lib.hid hRH
  clear b0 hbel hP hH hHb hh hRH
  have hall := arr48.all (w.heap.size + 1) 0
  have hn12 : (12 : Int) ≤ (n : Int) := by omega
  have hcc : (12 : Int) ≤ (c : Int) := by omega
  have RH2 := Lib.hid (show Rd ((w.alloc (.cells X.toArray 58)).alloc (.cells noughts12.toArray 48)).drew A (bs h) from RH.out.alloc (.cells noughts12.toArray 48))
  have hc12 : ¬ c = 12 := by omega
  go_enter Try.func35, Try.ntmps35
  go_wp2_with fail
  try simp only [Act.put]
  refine wp_region_mix [(true, 0), (true, 1), (true, 2)] [3] (by kernel_rfl) (by kernel_rfl) (fun _ => True) trivial ?_
  iterate 3
    refine wpHead_early rfl (fun K hK => ?_)
    go_simp
    refine hK _ ?_
    clear hK K
  refine wpStores_copy (news := bs h) rfl rfl (.tmp 17) (.tmp 19) 41 41 5 rfl Try.underlying41 info5 rfl rfl RH2.out (by rw [HHb.out]; decide) HHb.out (by omega) (show Blk ((w.alloc (.cells X.toArray 58)).alloc (.cells noughts12.toArray 48)).drew (w.heap.size + 1) 48 noughts12 from HP.out) (by rw [HHb.out]; decide) (bs_one _) ?_
  intro w5 hP5 hg5
  refine ⟨trivial, ?_⟩
  rw [lay_all _ _ (by rw [HHb.out]; rfl)] at hP5
  unfold wpStores
  simp only [Act.put, List.getElem_toArray, List.getElem_cons_succ, List.getElem_cons_zero, List.setIfInBounds_toArray, List.set_cons_zero, List.set_cons_succ]
  go_wp2_with fail
  have C0 := Lib.hid ((show Blk ((w.alloc (.cells X.toArray 58)).alloc (.cells noughts12.toArray 48)).drew w.heap.size 58 X from B0.out).grown hg5 (by simp))
  have CB := Lib.hid (BB.out.drew.grown hg5 (by show w.heap.size ≤ ((w.alloc (.cells X.toArray 58)).alloc (.cells noughts12.toArray 48)).heap.size; simp; omega) (fun j hj => by cases hj; omega))
  have C1 := Lib.hid hP5
  have CR := Lib.hid (HR.out.below CB.out)
  clear hP5 hg5 B0 BB HP RH RH2
  try simp only [Act.put]
  refine wp_region_mixR [(true, 0), (true, 1), (true, 2), (true, 3)] [4] [5, 6, 7, 8, 9] (by kernel_rfl) (by kernel_rfl) (fun _ => True) trivial ?_
  refine wpHead_val rfl rfl (exec_getAll 58 (.tmp 2) rfl rfl (show Blk w5.drew w.heap.size 58 X from C0.out) Try.underlying58 rfl info58 (by rw [← HX.out, bs_length, HK.out])) ?_
  simp only [Act.put, List.getElem_toArray, List.getElem_cons_succ, List.getElem_cons_zero, List.setIfInBounds_toArray, List.set_cons_zero, List.set_cons_succ]
  refine wpHead_val rfl rfl (exec_getAll 48 (.tmp 8) rfl rfl (show Blk w5.drew (w.heap.size + 1) 48 (bs h) from C1.out) Try.underlying48 rfl info48 HHb.out) ?_
  simp only [Act.put, List.getElem_toArray, List.getElem_cons_succ, List.getElem_cons_zero, List.setIfInBounds_toArray, List.set_cons_zero, List.set_cons_succ]
  iterate 2
    refine wpHead_early rfl (fun K hK => ?_)
    go_simp
    refine hK _ ?_
    clear hK K
  obtain ⟨y, hy⟩ : ∃ y, y = raw.drop 12 := ⟨_, rfl⟩
  have hyl : y.length = n - 12 := by rw [hy, List.length_drop, HN.out]
  have hry : Rd w5.drew (Option.map (fun x : Addr => (⟨x.block, x.off + 12, none⟩ : Addr)) A) (bs y) := by
    rw [hy]
    exact rd_from (c := c) (show Rd w5.drew A (bs raw) from CR.out) (by rw [HN.out]; omega) (by rw [HN.out]; exact hc) (by rintro b o rfl h; rfl)
  have Hy := Lib.hid hy
  have HYl := Lib.hid hyl
  clear hy hyl
  refine wpStores_call (f := 87) rfl rfl (by exact exec_enter (xl := [.tmp 22, .tmp 23, .const (.int .u32 0), .tmp 25]) rfl rfl Try.func87 rfl rfl _) (by rw [← HX.out]; exact rxor_calls key h y _ (n - 12) _ HK.out HH.out (by rw [HYl.out]; omega) HYl.out _ hry) ?_
  rintro e w6 ⟨v6, rfl, hown6, hb6⟩
  refine ⟨_, rfl, trivial, ?_⟩
  obtain ⟨A6, c6, rfl⟩ := own_slice hown6
  simp only [Act.put, List.getElem_toArray, List.getElem_cons_succ, List.getElem_cons_zero, List.setIfInBounds_toArray, List.set_cons_zero, List.set_cons_succ]
  have D0 := Lib.hid ((show Blk w5.drew (w.heap.size + 1) 48 (bs h) from C1.out).below hb6 C1.out.lt)
  have DB := Lib.hid (CB.out.drew.trans (hb6.mono (show w.heap.size ≤ w5.heap.size from CB.out.size)))
  have DO := Lib.hid (Joins.ownsRow_le (base' := w.heap.size + 2) hown6 (by have := C1.out.lt; show w.heap.size + 2 ≤ w5.heap.size; omega))
  clear hb6 hown6 C0 C1 CB CR hry
  obtain ⟨q, rfl⟩ : ∃ q, n = q + 22 := ⟨n - 22, by omega⟩
  have hm : q + 22 - 12 = q + 10 := by omega
  rw [hm] at HYl DO ⊢
  have hz : (xorA key h y).length = q + 10 := by rw [xorA_length, HYl.out]
  obtain ⟨x, hx⟩ : ∃ x, x = xorA key h y := ⟨_, rfl⟩
  rw [← hx] at hz DO
  have Hx := Lib.hid hx
  have HXl := Lib.hid hz
  clear hx hz
  have hc6 : q + 10 ≤ c6 := (own_at DO.out (by omega)).choose_spec.2.1
  unfold wpStores wpRest
  simp only [List.map_cons, List.map_nil]
  iterate 5
    refine wpHead_early rfl (fun K hK => ?_)
    go_simp
    refine hK _ ?_
    clear hK K
  unfold wpHead
  have i1 : (0 : Int) ≤ ((q + 10 : Nat) : Int) - 8 := by omega
  have i2 : ((q + 10 : Nat) : Int) - 8 ≤ ((q + 10 : Nat) : Int) := by omega
  go_wp2_with fail
  have hopen := openB_eq key raw h x q HN.out Hh.out (by rw [← Hy.out]; exact Hx.out)
  have hrl : (x.take (q + 2)).length = q + 2 := by rw [List.length_take, HXl.out]; omega
  have hzl : (x.drop (q + 2)).length = 8 := by rw [List.length_drop, HXl.out]; omega
  have rr := rd_to (Rd.of_own DO.out) (q + 2)
  have rz : Rd w6 (Option.map (·.add (q + 2)) A6) (bs (x.drop (q + 2))) := rd_from (c := c6) (Rd.of_own DO.out) (by rw [HXl.out]; omega) (by rw [HXl.out]; exact hc6) (by rintro b o rfl h; simp [add_lit])
  obtain ⟨r, hr⟩ : ∃ r, r = x.take (q + 2) := ⟨_, rfl⟩
  obtain ⟨z, hz⟩ : ∃ z, z = x.drop (q + 2) := ⟨_, rfl⟩
  rw [← hr] at hrl rr hopen
  rw [← hz] at hzl rz hopen
  clear hr hz
  have HOp := Lib.hid hopen
  have HRl := Lib.hid hrl
  have HZl := Lib.hid hzl
  clear hopen hrl hzl
  refine (runpad_calls A6 c6 r q _ rr HRl.out (by omega) (by omega)).mono ?_
  rintro e w9 (⟨t, v9, hu, rfl, hown9, hb9⟩ | ⟨hu, rfl, rfl⟩)
  · have HU := Lib.hid hu
    obtain ⟨A9, c9, rfl⟩ := own_slice hown9
    have F0 := Lib.hid (D0.out.below hb9 D0.out.lt)
    have FB := Lib.hid (DB.out.trans (hb9.mono DB.out.size))
    have FO := Lib.hid (Joins.ownsRow_le (base' := w.heap.size) hown9 DB.out.size)
    have Fr := Lib.hid (rr.below hb9)
    have Fz := Lib.hid (rz.below hb9)
    clear hb9 hown9 hu DB rr rz D0 DO
    go_wp2_with fail
    try simp only [Act.put]
    have hsl : ∀ W : World, (Instr.slice 41 (.slice A6 (q + 10) c6) (some (.int .i64 ((q : Int) + 10 - 8))) none none).run Try.prog W = .ok (.slice (Option.map (·.add (q + 2)) A6) 8 (c6 - (q + 2))) W := fun W => by
      have := sl_from (P := Try.prog) Try.underlying41 info5 A6 (q + 10) c6 (q + 2) ((q : Int) + 10 - 8) (by omega) (by omega) hc6 W
      rwa [show q + 10 - (q + 2) = 8 by omega] at this
    refine wp_region_mixR [(true, 0), (true, 1), (true, 2), (false, 3), (false, 4), (false, 5), (false, 6), (false, 7), (false, 8), (false, 10), (false, 12)] [9, 11, 13] [14, 15, 16] (by kernel_rfl) (by kernel_rfl) (fun w' => Below w9.heap.size w9 w') (Below.refl _ _).drew ?_
    iterate 3
      refine wpHead_early rfl (fun K hK => ?_)
      go_simp
      refine hK _ ?_
      clear hK K
    refine wpHead_late rfl (fun K hK => ⟨.slice A6 (q + 10) c6, fun w' hC => ⟨rfl, ?_⟩, hK _ ?_⟩)
    · clear hK K
      go_simp
    clear hK K
    refine wpHead_late rfl (fun K hK => ⟨.slice A6 (q + 10) c6, fun w' hC => ⟨rfl, ?_⟩, hK _ ?_⟩)
    · clear hK K
      go_simp
    clear hK K
    refine wpHead_late rfl (fun K hK => ⟨.int .i64 ((q : Int) + 10), fun w' hC => ⟨rfl, ?_⟩, hK _ ?_⟩)
    · clear hK K
      go_simp
    clear hK K
    refine wpHead_late rfl (fun K hK => ⟨.int .i64 ((q : Int) + 10 - 8), fun w' hC => ⟨rfl, ?_⟩, hK _ ?_⟩)
    · clear hK K
      go_simp
      rw [IntKind.wrap_i64]; omega
    clear hK K
    refine wpHead_late rfl (fun K hK => ⟨.slice (Option.map (·.add (q + 2)) A6) 8 (c6 - (q + 2)), fun w' hC => ⟨rfl, ?_⟩, hK _ ?_⟩)
    · clear hK K
      go_simp
    clear hK K
    simp only [Act.put, List.getElem_toArray, List.getElem_cons_succ, List.getElem_cons_zero, List.setIfInBounds_toArray, List.set_cons_zero, List.set_cons_succ]
    refine wpHead_callLate (f := 89) rfl rfl (fun W => by exact exec_enter (xl := [.tmp 51]) rfl rfl Try.func89 rfl rfl W) (v := .int .u64 (getB z : Nat)) (fun W hC => ?_) ?_
    · have := rget_at (Option.map (·.add (q + 2)) A6) 8 (c6 - (q + 2)) z W HZl.out (Fz.out.below hC) (by decide)
      rwa [List.take_of_length_le (l := z) (by rw [HZl.out]; decide)] at this
    refine wpHead_late rfl (fun K hK => ⟨.slice (some ⟨w.heap.size + 1, 0, none⟩) 12 12, fun w' hC => ⟨rfl, ?_⟩, hK _ ?_⟩)
    · clear hK K
      go_simp
    clear hK K
    refine wpHead_late rfl (fun K hK => ⟨.slice A6 (q + 2) c6, fun w' hC => ⟨rfl, ?_⟩, hK _ ?_⟩)
    · clear hK K
      go_simp
    clear hK K
    simp only [Act.put, List.getElem_toArray, List.getElem_cons_succ, List.getElem_cons_zero, List.setIfInBounds_toArray, List.set_cons_zero, List.set_cons_succ]
    unfold wpHead
    refine wpStores_turnG (v := .slice (some ⟨w9.heap.size, 0, none⟩) 0 0) (w' := w9.drew.alloc (.cells #[] 5)) rfl rfl (by go_simp) ((Below.refl _ _).drew.alloc (Nat.le_refl _) _) ?_
    simp only [Act.put, List.getElem_toArray, List.getElem_cons_succ, List.getElem_cons_zero, List.setIfInBounds_toArray, List.set_cons_zero, List.set_cons_succ]
    have hown0 := own_empty w9.drew w9.heap.size (Nat.le_refl _)
    have bE := ((Below.refl w9.heap.size w9).drew).alloc (Nat.le_refl _) (.cells #[] 5)
    refine wpStores_appG (v := .slice (some ⟨w9.heap.size, 0, none⟩) 0 0) S41 rfl rfl (.tmp 53) (.tmp 54) rfl rfl rfl hown0 ((show Blk w9.drew (w.heap.size + 1) 48 (bs h) from F0.out).alloc (.cells #[] 5)).rdAll (by rw [HHb.out]) (bs_one _) (by omega) (by unfold maxLen; omega) (by show w9.heap.size ≤ _; simp) ?_
    intro v10 w10 hown10 hg10 _
    have b10 := Lib.hid (below_grown bE hown0 hg10 (by show w9.heap.size ≤ _; simp))
    refine ⟨b10.out, ?_⟩
    obtain ⟨A10, c10, rfl⟩ := own_slice hown10
    simp only [Act.put, List.getElem_toArray, List.getElem_cons_succ, List.getElem_cons_zero, List.setIfInBounds_toArray, List.set_cons_zero, List.set_cons_succ]
    refine wpStores_appG (v := .slice A10 (0 + 12) c10) S41 rfl rfl (.tmp 55) (.tmp 56) rfl rfl rfl hown10 (Fr.out.below b10.out) (by rw [bs_length, HRl.out]; omega) (bs_one _) (by omega) (by unfold maxLen; omega) b10.out.size ?_
    intro v11 w11 hown11 hg11 _
    have b11 := Lib.hid (below_grown b10.out hown10 hg11 b10.out.size)
    refine ⟨b11.out, ?_⟩
    obtain ⟨A11, c11, rfl⟩ := own_slice hown11
    rw [List.nil_append, ← bs_append] at hown11
    simp only [Act.put, List.getElem_toArray, List.getElem_cons_succ, List.getElem_cons_zero, List.setIfInBounds_toArray, List.set_cons_zero, List.set_cons_succ]
    clear hg10 hg11 hown10 hown0 bE b10
    unfold wpStores wpRest
    simp only [List.map_cons, List.map_nil]
    refine wpHead_call (f := 90) rfl rfl (fun W => by exact exec_enter (xl := [.tmp 57]) rfl rfl Try.func90 rfl rfl W) (rsum_at _ _ _ (h ++ r) _ (by rw [List.length_append, HH.out, HRl.out]) (.of_own hown11) (by omega)) ?_
    simp only [Act.put, List.getElem_toArray, List.getElem_cons_succ, List.getElem_cons_zero, List.setIfInBounds_toArray, List.set_cons_zero, List.set_cons_succ]
    have I0 := Lib.hid (F0.out.below b11.out F0.out.lt)
    have IB := Lib.hid (FB.out.trans (b11.out.mono FB.out.size))
    have IO := Lib.hid (own_below FO.out b11.out)
    clear F0 FB FO Fr Fz b11 hown11
    have hiff := sum_iff z HZl.out (sumB (h ++ r)) (sumB_lt _)
    have h4 := arr48.h (w.heap.size + 1) 0 4 (H := 4) rfl (by decide)
    have h8 := arr48.l (w.heap.size + 1) 0 4 (L := 4) rfl (by decide)
    rw [Nat.zero_add] at h8
    by_cases heq : getB z = sumB (h ++ r)
    · have HE := Lib.hid (show openB key raw = some (t, getB (h.take 4), getB (h.drop 4)) by rw [HOp.out, HU.out]; simp [hiff.1 heq])
      rw [heq]
      clear heq hiff
      iterate 2
        refine wpHead_early rfl (fun K hK => ?_)
        go_simp
        refine hK _ ?_
        clear hK K
      unfold wpHead
      go_wp2_with fail
      have hb4 : (h.take 4).length = 4 := by rw [List.length_take, HH.out]; rfl
      have hb8 : (h.drop 4).length = 8 := by rw [List.length_drop, HH.out]
      have r4 : Rd w11 (some ⟨w.heap.size + 1, 0, none⟩) (bs (h.take 4)) := rd_to I0.out.rdAll 4
      have r8 : Rd w11 (some ⟨w.heap.size + 1, 4, none⟩) (bs (h.drop 4)) := by
        have := I0.out.rd (o := 4) (n := 8) (by rw [HHb.out]; decide)
        rwa [bs_cut, List.take_of_length_le (by omega)] at this
      have lb : getB (h.take 4) < 4294967296 := by have := getB_lt (h.take 4); rwa [hb4] at this
      have ls : getB (h.drop 4) < 18446744073709551616 := by have := getB_lt (h.drop 4); rwa [hb8] at this
      have c4 : ∀ W : World, W.heap = w11.heap → Calls Try.prog 89 #[.slice (some ⟨w.heap.size + 1, 0, none⟩) 4 12] W fun e w' => e = .returned (.int .u64 (getB (h.take 4) : Nat)) ∧ w' = W := fun W hW => by
        have := rget_at (some ⟨w.heap.size + 1, 0, none⟩) 4 12 (h.take 4) W hb4 (r4.keep fun b _ => by rw [hW]) (by decide)
        rw [List.take_of_length_le (l := h.take 4) (by omega)] at this
        exact this.mono fun _ _ h => ⟨h.1, h.2.symm⟩
      have c8 : ∀ W : World, W.heap = w11.heap → Calls Try.prog 89 #[.slice (some ⟨w.heap.size + 1, 4, none⟩) 8 8] W fun e w' => e = .returned (.int .u64 (getB (h.drop 4) : Nat)) ∧ w' = W := fun W hW => by
        have := rget_at (some ⟨w.heap.size + 1, 4, none⟩) 8 8 (h.drop 4) W hb8 (r8.keep fun b _ => by rw [hW]) (by decide)
        rw [List.take_of_length_le (l := h.drop 4) (by omega)] at this
        exact this.mono fun _ _ h => ⟨h.1, h.2.symm⟩
      generalize getB (h.take 4) = bo at *
      generalize getB (h.drop 4) = se at *
      have HC4 := Lib.hid c4
      have HC8 := Lib.hid c8
      clear c4 c8 r4 r8 hb4 hb8
      go_wp2_with fail
      try simp only [Act.put]
      go_quiet ((first
        | (go_at_call_of 89 (12 : Nat); refine Calls.quiet_of_same (HC4.out _ ?_); rfl)
        | (go_at_call 89; refine Calls.quiet_of_same (HC8.out _ ?_); rfl)))
      go_wp2_with fail
      ((try simp only [Exit.inBlock, Exit.then]); refine bodyPost_ret (results_tmp4 rfl _ _ _) rfl ?_)
      exact .inl ⟨t, bo, se, _, HE.out, lb, ls, rfl, IO.out, ⟨IB.out.os, IB.out.tape, IB.out.output, IB.out.size, IB.out.block⟩⟩
    · have HE := Lib.hid (show openB key raw = none by rw [HOp.out, HU.out]; simp [show ¬ putB (sumB (h ++ r)) 8 = z from fun e => heq (hiff.2 e)])
      have hneI : ¬ ((getB z : Nat) : Int) = ((sumB (h ++ r) : Nat) : Int) := by omega
      clear hiff
      generalize getB z = G at *
      generalize sumB (h ++ r) = S at *
      iterate 2
        refine wpHead_early rfl (fun K hK => ?_)
        go_simp
        refine hK _ ?_
        clear hK K
      unfold wpHead
      go_wp2_with fail
      ((try simp only [Exit.inBlock, Exit.then]); refine bodyPost_ret (results_tmp4 rfl _ _ _) rfl ?_)
      exact .inr ⟨HE.out, rfl, IB.out⟩
  · have HE := Lib.hid (show openB key raw = none by rw [HOp.out, hu])
    clear hu
    go_wp2_with fail
    try simp only [Act.put]
    go_quiet (fail)
    go_wp2_with fail
    ((try simp only [Exit.inBlock, Exit.then]); refine bodyPost_ret (results_tmp4 rfl _ _ _) rfl ?_)
    exact .inr ⟨HE.out, rfl, ⟨DB.out.os, DB.out.tape, DB.out.output, DB.out.size, DB.out.block⟩⟩
end Go.Proofs.Ytbdnoiaglighhaa
